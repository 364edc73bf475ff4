/- PARTS, JOINED: RECORDS: the reference's Decode, of an Open. Conditions: at most 2^40 bytes. RECORDS: the reference's Decode, of a Close. Conditions: at most 2^40 bytes. RECORDS: the reference's Decode. Conditions: at most 2^40 bytes. LAYER 17: RecordReads: the record of any bytes. Conditions: the laid cell of errors.errorType. -/
import Derived.Test.YtdaigkcbmdcbcaaDoorRj1
import Derived.Test.YtdaigkcbmdcbcaaDoorRj2
import Derived.Test.YtdaigkcbmdcbcaaDoorRj3
import Derived.Test.YtdaigkcbmdcbcaaDoorRj4
import Derived.Test.YtdaigkcbmdcbcaaDoorRj5
import Derived.Test.YtdaigkcbmdcbcaaDoorRj6
import Derived.Test.YtdaigkcbmdcbcaaDoorRj7
import Derived.Test.YtdaigkcbmdcbcaaDoorRj8
import Derived.Test.YtdaigkcbmdcbcaaDoorRj9
namespace Go.Proofs.YtdaigkcbmdcbcaaDoor.Rec
open Go.RowKit Go.Mir Go.Mir.Parts Wr Cod Blk

set_option maxRecDepth 100000 in
set_option maxHeartbeats 12800000 in
theorem rdecode_open (p0 : Option Addr) (n0 c0 : Nat) (l : List UInt8) (w : World) (hB : Bs w p0 n0 c0 l) (hn : n0 ≤ 1099511627776) (K : Nat) (h6 : K = 1) (hcx : ∀ w', Below w.heap.size w w' → ∀ a, p0 = some a → w'.cell? a = some (.int .u8 (K : Int)))
    (hdc : decR l = (if l.length < 6 then (.zero, 2) else if 6 < l.length then (.zero, 3) else if (r1 l).right = true then (r1 l, 0) else (.zero, 4))) (Q : RecD × Int)
    (hbd : ∀ ev : Int, decR l = (RecD.zero, ev) → ∀ w', Below w.heap.size w w' → DecP Q.1 Q.2 w (.returned (.tuple #[.agg (recA RecD.zero RS.none), .int .i64 ev])) w')
    (hgd : ∀ r, decR l = (r, 0) → ∀ t w', RecAt w' r t → Below w.heap.size w w' → DecP Q.1 Q.2 w (.returned (.tuple #[.agg (recA r t), .int .i64 0])) w') (hn1 : 1 ≤ n0) :
    Calls Tryd.prog 25 #[.slice p0 n0 c0] w (DecP Q.1 Q.2 w) := by
  have hz := zeroR
  have HB := Lib.hid hB
  have hle := hB.le
  have hmax := hB.max
  have HN : Hid (l.length = n0) := hB.length
  have HBD := Lib.hid hbd
  have HGD := Lib.hid hgd
  have hd : decide ((n0 : Int) < (1 : Int)) = false := decide_eq_false (by omega)
  obtain ⟨b, o, rfl⟩ := hB.addr (by omega) (by omega)
  have HCB : Hid (∀ w', Below w.heap.size w w' → w'.cell? ⟨b, o, none⟩ = some (.int .u8 1)) := fun w' hb => by rw [hcx w' hb _ rfl, h6]; rfl
  have HKB : Hid (-9223372036854775808 ≤ (1 : Int) ∧ (1 : Int) ≤ 9223372036854775807) := by show _ ∧ _; omega
  rw [HN.out] at hdc
  clear hB hcx h6 hbd hgd
  by_cases hs : n0 < 6
  · have e3 : decide ((n0 : Int) < 6) = true := decide_eq_true (by omega)
    have e3b : decide (n0 < 6) = true := decide_eq_true hs
    have HF := Lib.hid (HBD.out 2 (by rw [hdc, if_pos hs]))
    clear hdc hs HGD HBD
    go_enter Tryd.func25, Tryd.ntmps25
    go_upto_region 1 with fail
    have hq0 : (w.alloc (.cells (recA RecD.zero RS.none) 42)).heap[w.heap.size]? = some (.cells (recA RecD.zero RS.none) 42 (0, 0)) ∧ (w.alloc (.cells (recA RecD.zero RS.none) 42)).heap.size = w.heap.size + 1 ∧ Below w.heap.size w (w.alloc (.cells (recA RecD.zero RS.none) 42)) := ⟨heap_alloc_last _ _, by simp, Below.allocs _ _⟩
    generalize w.alloc (.cells (recA RecD.zero RS.none) 42) = w1 at *
    have HQ0 := Lib.hid hq0
    clear hq0
    go_upto_region 2 with (first
      | refine Rdr.wpList_build rfl 42 _ rfl [] rfl _ build_r0 ?_
      | refine wpList_store_row rfl 42 _ _ rfl w1.heap.size (recA RecD.zero RS.none) rfl rfl 42 (recA RecD.zero RS.none) (heap_alloc_last _ _) (sizeR _ rfl) rfl (recA_one _ _) ?_)
    try simp only [Act.put, List.setIfInBounds_toArray, List.set_cons_zero, List.set_cons_succ]
    have hq1 : ((w1.alloc (.cells (recA RecD.zero RS.none) 42)).setRow w1.heap.size (recA RecD.zero RS.none)).heap[w1.heap.size]? = some (.cells (recA RecD.zero RS.none) 42 (0, 0)) ∧ Below w1.heap.size w1 ((w1.alloc (.cells (recA RecD.zero RS.none) 42)).setRow w1.heap.size (recA RecD.zero RS.none)) ∧ ((w1.alloc (.cells (recA RecD.zero RS.none) 42)).setRow w1.heap.size (recA RecD.zero RS.none)).heap.size = w.heap.size + 2 := ⟨setRow_heap _ _ _ _ _ _ (heap_alloc_last _ _), below_setRow (Below.allocs _ _) (Nat.le_refl _) _, by have := HQ0.out.2.1; simp [World.setRow]; omega⟩
    generalize (w1.alloc (.cells (recA RecD.zero RS.none) 42)).setRow w1.heap.size (recA RecD.zero RS.none) = w2 at *
    have hs1 := HQ0.out.2.1
    rw [hs1] at hq1 ⊢
    have HQ1 : Hid (w2.heap[w.heap.size]? = some (.cells (recA RecD.zero RS.none) 42 (0, 0)) ∧ w2.heap[w.heap.size + 1]? = some (.cells (recA RecD.zero RS.none) 42 (0, 0)) ∧ w2.heap.size = w.heap.size + 2 ∧ Below w.heap.size w w2) := ⟨Below.keepBlock hq1.2.1 HQ0.out.1 (by omega), hq1.1, hq1.2.2, HQ0.out.2.2.trans (hq1.2.1.mono (by omega))⟩
    clear hs1 hq1 HQ0
    have hcb := HCB.out _ HQ1.out.2.2.2
    go_upto_region 5 with (first
      | refine Rdr.wpList_build rfl 42 _ rfl [(0, .int .i64 1)] rfl _ (build_rk _) ?_
      | refine wpList_store_row rfl 42 _ _ rfl w2.heap.size (recA ⟨1, 0, 0, 0, z16, [], .zero⟩ RS.none) rfl rfl 42 (recA RecD.zero RS.none) (heap_alloc_last _ _) (sizeR _ rfl) rfl (recA_one _ _) ?_)
    try simp only [Act.put, List.setIfInBounds_toArray, List.set_cons_zero, List.set_cons_succ]
    have hq5 : ((w2.alloc (.cells (recA RecD.zero RS.none) 42)).setRow w2.heap.size (recA ⟨1, 0, 0, 0, z16, [], .zero⟩ RS.none)).heap[w2.heap.size]? = some (.cells (recA ⟨1, 0, 0, 0, z16, [], .zero⟩ RS.none) 42 (0, 0)) ∧ Below w2.heap.size w2 ((w2.alloc (.cells (recA RecD.zero RS.none) 42)).setRow w2.heap.size (recA ⟨1, 0, 0, 0, z16, [], .zero⟩ RS.none)) ∧ ((w2.alloc (.cells (recA RecD.zero RS.none) 42)).setRow w2.heap.size (recA ⟨1, 0, 0, 0, z16, [], .zero⟩ RS.none)).heap.size = w.heap.size + 3 := ⟨setRow_heap _ _ _ _ _ _ (heap_alloc_last _ _), below_setRow (Below.allocs _ _) (Nat.le_refl _) _, by have := HQ1.out.2.2.1; simp [World.setRow]; omega⟩
    generalize (w2.alloc (.cells (recA RecD.zero RS.none) 42)).setRow w2.heap.size (recA ⟨1, 0, 0, 0, z16, [], .zero⟩ RS.none) = x0 at *
    have hs2 := HQ1.out.2.2.1
    rw [hs2] at hq5 ⊢
    have HD : Hid (QD w ⟨1, 0, 0, 0, z16, [], .zero⟩ RS.none x0) := ⟨Below.keepBlock hq5.2.1 HQ1.out.1 (by omega), Below.keepBlock hq5.2.1 HQ1.out.2.1 (by omega), hq5.1, HQ1.out.2.2.2.trans (hq5.2.1.mono (by have := HQ1.out.2.2.1; omega)), kind_wf HKB.out⟩
    have HX3 : Hid (x0.heap.size = w.heap.size + 3) := hq5.2.2
    clear hcb hs2 hq5 HQ1
    obtain ⟨a0, a1, a2, a3, a20, -, -, -, fz⟩ := HD.out.rw.cells
    go_upto_region 12 with fail
    have hrs := heap_alloc_last x0 (.cells #[.int .i64 0, .int .i64 6, .int .i64 25, .int .i64 0, .int .i64 5, .int .i64 0, .int .i64 33] 3)
    have hd1 := HD.out.below (Below.allocs x0 (.cells #[.int .i64 0, .int .i64 6, .int .i64 25, .int .i64 0, .int .i64 5, .int .i64 0, .int .i64 33] 3))
    rw [HX3.out] at hrs ⊢
    generalize x0.alloc (.cells #[.int .i64 0, .int .i64 6, .int .i64 25, .int .i64 0, .int .i64 5, .int .i64 0, .int .i64 33] 3) = x1 at *
    have z0 : x1.cell? ⟨w.heap.size + 3, 0, none⟩ = some (.int .i64 0) := by rw [cell_of_row _ _ _ _ _ _ hrs]; rfl
    have z1 : x1.cell? ⟨w.heap.size + 3, 1, none⟩ = some (.int .i64 6) := by rw [cell_of_row _ _ _ _ _ _ hrs]; rfl
    have z2 : x1.cell? ⟨w.heap.size + 3, 2, none⟩ = some (.int .i64 25) := by rw [cell_of_row _ _ _ _ _ _ hrs]; rfl
    have z3 : x1.cell? ⟨w.heap.size + 3, 3, none⟩ = some (.int .i64 0) := by rw [cell_of_row _ _ _ _ _ _ hrs]; rfl
    have z4 : x1.cell? ⟨w.heap.size + 3, 4, none⟩ = some (.int .i64 5) := by rw [cell_of_row _ _ _ _ _ _ hrs]; rfl
    have z6 : x1.cell? ⟨w.heap.size + 3, 6, none⟩ = some (.int .i64 33) := by rw [cell_of_row _ _ _ _ _ _ hrs]; rfl
    clear HD HX3 hrs a0 a1 a2 a3 a20 fz
    have HD := Lib.hid hd1
    clear hd1
    obtain ⟨a0, a1, a2, a3, a20, -, -, -, fz⟩ := HD.out.rw.cells
    go_wp2_with (first
      | refine wpList_load_row rfl 42 _ rfl (w.heap.size + 1) rfl 42 (recA RecD.zero RS.none) (0, 0) _ (HD.out.r1) Tryd.underlying42 rfl (sizeR _ rfl) ?_
      | refine wpList_store_row rfl 42 _ _ rfl w.heap.size (recA RecD.zero RS.none) rfl rfl 42 (recA RecD.zero RS.none) (HD.out.r0) (sizeR _ rfl) rfl (recA_one _ _) ?_)
    have HS := Lib.hid (setRow_heap _ _ _ (recA RecD.zero RS.none) _ _ (HD.out.r0))
    refine bodyPost_ret (Blk.results_cell_tmp2 rfl _ _ _ _ _ _ _ rfl HS.out Tryd.underlying42 rfl (sizeR _ rfl)) rfl ?_
    exact HF.out _ (below_setRow (HD.out.low) (Nat.le_refl _) _)
  have e3 : decide ((n0 : Int) < 6) = false := decide_eq_false (by omega)
  have e3b : decide (n0 < 6) = false := decide_eq_false hs
  rw [if_neg hs] at hdc
  have HV1 : Hid (Rdr.beN ((l.drop 1).take 4) < 4294967296) := ses_lt (by rw [HN.out]; omega)
  have h5l : 5 < l.length := by rw [HN.out]; omega
  have hq5 : (l.drop 5).take 1 = [l[5]'h5l] := by rw [List.drop_eq_getElem_cons h5l]; rfl
  have HR1 : Hid (r1 l = ⟨1, Rdr.beN ((l.drop 1).take 4), 0, (l[5]'h5l).toNat, z16, [], .zero⟩) := by show _ = _; unfold r1; rw [hq5, beN_one]
  have HC5 : Hid (∀ w', Below w.heap.size w w' → w'.cell? ⟨b, o + 5, none⟩ = some (.int .u8 ((l[5]'h5l).toNat : Int))) := fun w' hb => Bs.byte (HB.out.below hb) h5l
  have hq256 := (l[5]'h5l).toNat_lt
  generalize (l[5]'h5l).toNat = q5 at *
  have hqw : IntKind.u32.wrap (q5 : Int) = (q5 : Int) := by rw [IntKind.wrap_u32]; omega
  have HQ5 : Hid (q5 < 4294967296) := by show _ < _; omega
  have HDC := Lib.hid hdc
  clear hq5 hq256 hdc h5l
  by_cases hg : 6 < n0
  · have e4 : decide ((6 : Int) < (n0 : Int)) = true := decide_eq_true (by omega)
    have e4b : decide (6 < n0) = true := decide_eq_true hg
    have HF := Lib.hid (HBD.out 3 (by rw [HDC.out, if_pos hg]))
    clear hg HDC HGD HBD
    go_enter Tryd.func25, Tryd.ntmps25
    go_upto_region 1 with fail
    have hq0 : (w.alloc (.cells (recA RecD.zero RS.none) 42)).heap[w.heap.size]? = some (.cells (recA RecD.zero RS.none) 42 (0, 0)) ∧ (w.alloc (.cells (recA RecD.zero RS.none) 42)).heap.size = w.heap.size + 1 ∧ Below w.heap.size w (w.alloc (.cells (recA RecD.zero RS.none) 42)) := ⟨heap_alloc_last _ _, by simp, Below.allocs _ _⟩
    generalize w.alloc (.cells (recA RecD.zero RS.none) 42) = w1 at *
    have HQ0 := Lib.hid hq0
    clear hq0
    go_upto_region 2 with (first
      | refine Rdr.wpList_build rfl 42 _ rfl [] rfl _ build_r0 ?_
      | refine wpList_store_row rfl 42 _ _ rfl w1.heap.size (recA RecD.zero RS.none) rfl rfl 42 (recA RecD.zero RS.none) (heap_alloc_last _ _) (sizeR _ rfl) rfl (recA_one _ _) ?_)
    try simp only [Act.put, List.setIfInBounds_toArray, List.set_cons_zero, List.set_cons_succ]
    have hq1 : ((w1.alloc (.cells (recA RecD.zero RS.none) 42)).setRow w1.heap.size (recA RecD.zero RS.none)).heap[w1.heap.size]? = some (.cells (recA RecD.zero RS.none) 42 (0, 0)) ∧ Below w1.heap.size w1 ((w1.alloc (.cells (recA RecD.zero RS.none) 42)).setRow w1.heap.size (recA RecD.zero RS.none)) ∧ ((w1.alloc (.cells (recA RecD.zero RS.none) 42)).setRow w1.heap.size (recA RecD.zero RS.none)).heap.size = w.heap.size + 2 := ⟨setRow_heap _ _ _ _ _ _ (heap_alloc_last _ _), below_setRow (Below.allocs _ _) (Nat.le_refl _) _, by have := HQ0.out.2.1; simp [World.setRow]; omega⟩
    generalize (w1.alloc (.cells (recA RecD.zero RS.none) 42)).setRow w1.heap.size (recA RecD.zero RS.none) = w2 at *
    have hs1 := HQ0.out.2.1
    rw [hs1] at hq1 ⊢
    have HQ1 : Hid (w2.heap[w.heap.size]? = some (.cells (recA RecD.zero RS.none) 42 (0, 0)) ∧ w2.heap[w.heap.size + 1]? = some (.cells (recA RecD.zero RS.none) 42 (0, 0)) ∧ w2.heap.size = w.heap.size + 2 ∧ Below w.heap.size w w2) := ⟨Below.keepBlock hq1.2.1 HQ0.out.1 (by omega), hq1.1, hq1.2.2, HQ0.out.2.2.trans (hq1.2.1.mono (by omega))⟩
    clear hs1 hq1 HQ0
    have hcb := HCB.out _ HQ1.out.2.2.2
    go_upto_region 5 with (first
      | refine Rdr.wpList_build rfl 42 _ rfl [(0, .int .i64 1)] rfl _ (build_rk _) ?_
      | refine wpList_store_row rfl 42 _ _ rfl w2.heap.size (recA ⟨1, 0, 0, 0, z16, [], .zero⟩ RS.none) rfl rfl 42 (recA RecD.zero RS.none) (heap_alloc_last _ _) (sizeR _ rfl) rfl (recA_one _ _) ?_)
    try simp only [Act.put, List.setIfInBounds_toArray, List.set_cons_zero, List.set_cons_succ]
    have hq5 : ((w2.alloc (.cells (recA RecD.zero RS.none) 42)).setRow w2.heap.size (recA ⟨1, 0, 0, 0, z16, [], .zero⟩ RS.none)).heap[w2.heap.size]? = some (.cells (recA ⟨1, 0, 0, 0, z16, [], .zero⟩ RS.none) 42 (0, 0)) ∧ Below w2.heap.size w2 ((w2.alloc (.cells (recA RecD.zero RS.none) 42)).setRow w2.heap.size (recA ⟨1, 0, 0, 0, z16, [], .zero⟩ RS.none)) ∧ ((w2.alloc (.cells (recA RecD.zero RS.none) 42)).setRow w2.heap.size (recA ⟨1, 0, 0, 0, z16, [], .zero⟩ RS.none)).heap.size = w.heap.size + 3 := ⟨setRow_heap _ _ _ _ _ _ (heap_alloc_last _ _), below_setRow (Below.allocs _ _) (Nat.le_refl _) _, by have := HQ1.out.2.2.1; simp [World.setRow]; omega⟩
    generalize (w2.alloc (.cells (recA RecD.zero RS.none) 42)).setRow w2.heap.size (recA ⟨1, 0, 0, 0, z16, [], .zero⟩ RS.none) = x0 at *
    have hs2 := HQ1.out.2.2.1
    rw [hs2] at hq5 ⊢
    have HD : Hid (QD w ⟨1, 0, 0, 0, z16, [], .zero⟩ RS.none x0) := ⟨Below.keepBlock hq5.2.1 HQ1.out.1 (by omega), Below.keepBlock hq5.2.1 HQ1.out.2.1 (by omega), hq5.1, HQ1.out.2.2.2.trans (hq5.2.1.mono (by have := HQ1.out.2.2.1; omega)), kind_wf HKB.out⟩
    have HX3 : Hid (x0.heap.size = w.heap.size + 3) := hq5.2.2
    clear hcb hs2 hq5 HQ1
    obtain ⟨a0, a1, a2, a3, a20, -, -, -, fz⟩ := HD.out.rw.cells
    go_upto_region 12 with fail
    have hrs := heap_alloc_last x0 (.cells #[.int .i64 0, .int .i64 6, .int .i64 25, .int .i64 0, .int .i64 5, .int .i64 0, .int .i64 33] 3)
    have hd1 := HD.out.below (Below.allocs x0 (.cells #[.int .i64 0, .int .i64 6, .int .i64 25, .int .i64 0, .int .i64 5, .int .i64 0, .int .i64 33] 3))
    rw [HX3.out] at hrs ⊢
    generalize x0.alloc (.cells #[.int .i64 0, .int .i64 6, .int .i64 25, .int .i64 0, .int .i64 5, .int .i64 0, .int .i64 33] 3) = x1 at *
    have z0 : x1.cell? ⟨w.heap.size + 3, 0, none⟩ = some (.int .i64 0) := by rw [cell_of_row _ _ _ _ _ _ hrs]; rfl
    have z1 : x1.cell? ⟨w.heap.size + 3, 1, none⟩ = some (.int .i64 6) := by rw [cell_of_row _ _ _ _ _ _ hrs]; rfl
    have z2 : x1.cell? ⟨w.heap.size + 3, 2, none⟩ = some (.int .i64 25) := by rw [cell_of_row _ _ _ _ _ _ hrs]; rfl
    have z3 : x1.cell? ⟨w.heap.size + 3, 3, none⟩ = some (.int .i64 0) := by rw [cell_of_row _ _ _ _ _ _ hrs]; rfl
    have z4 : x1.cell? ⟨w.heap.size + 3, 4, none⟩ = some (.int .i64 5) := by rw [cell_of_row _ _ _ _ _ _ hrs]; rfl
    have z6 : x1.cell? ⟨w.heap.size + 3, 6, none⟩ = some (.int .i64 33) := by rw [cell_of_row _ _ _ _ _ _ hrs]; rfl
    clear HD HX3 hrs a0 a1 a2 a3 a20 fz
    have HD := Lib.hid hd1
    clear hd1
    obtain ⟨a0, a1, a2, a3, a20, -, -, -, fz⟩ := HD.out.rw.cells
    obtain ⟨q9, hrun, hqb⟩ := cut3 l HB.out 1 4 1 5 (by omega) (by omega) (by omega)
    have HQB := Lib.hid hqb
    clear hqb
    go_wp2_with fail
    refine (value_any _ _ _ _ _ (HQB.out _ HD.out.low) (by omega)).mono ?_
    rintro e w' ⟨rfl, rfl⟩
    clear hrun HQB
    generalize Rdr.beN ((l.drop 1).take 4) = n1 at *
    have hdn := HD.out.put (HD.out.rw.ses n1 HV1.out)
    clear HD a0 a2 a3 a20 z0 z1 z2 z3 z4 z6
    go_upto_region 23 with fail
    clear a1 fz
    have HD := Lib.hid hdn
    clear hdn
    generalize x1.setCell ⟨w.heap.size + 2, 1, none⟩ (.int .u32 (n1 : Int)) = x2 at *
    obtain ⟨a0, a1, a2, a3, a20, -, -, -, fz⟩ := HD.out.rw.cells
    have hc5 := HC5.out _ HD.out.low
    have hdn := HD.out.put (HD.out.rw.quo q5 HQ5.out)
    clear HD
    go_upto_region 35 with fail
    clear hc5 a0 a1 a2 a3 a20 fz
    have HD := Lib.hid hdn
    clear hdn
    generalize x2.setCell ⟨w.heap.size + 2, 3, none⟩ (.int .u32 (q5 : Int)) = x3 at *
    go_wp2_with (first
      | refine wpList_load_row rfl 42 _ rfl (w.heap.size + 1) rfl 42 (recA RecD.zero RS.none) (0, 0) _ (HD.out.r1) Tryd.underlying42 rfl (sizeR _ rfl) ?_
      | refine wpList_store_row rfl 42 _ _ rfl w.heap.size (recA RecD.zero RS.none) rfl rfl 42 (recA RecD.zero RS.none) (HD.out.r0) (sizeR _ rfl) rfl (recA_one _ _) ?_)
    have HS := Lib.hid (setRow_heap _ _ _ (recA RecD.zero RS.none) _ _ (HD.out.r0))
    refine bodyPost_ret (Blk.results_cell_tmp2 rfl _ _ _ _ _ _ _ rfl HS.out Tryd.underlying42 rfl (sizeR _ rfl)) rfl ?_
    exact HF.out _ (below_setRow (HD.out.low) (Nat.le_refl _) _)
  have e4 : decide ((6 : Int) < (n0 : Int)) = false := decide_eq_false (by omega)
  have e4b : decide (6 < n0) = false := decide_eq_false hg
  have hdc := HDC.out
  rw [if_neg hg, HR1.out] at hdc
  clear hg HDC HR1
  have HDC := Lib.hid hdc
  clear hdc
  go_enter Tryd.func25, Tryd.ntmps25
  go_upto_region 1 with fail
  have hq0 : (w.alloc (.cells (recA RecD.zero RS.none) 42)).heap[w.heap.size]? = some (.cells (recA RecD.zero RS.none) 42 (0, 0)) ∧ (w.alloc (.cells (recA RecD.zero RS.none) 42)).heap.size = w.heap.size + 1 ∧ Below w.heap.size w (w.alloc (.cells (recA RecD.zero RS.none) 42)) := ⟨heap_alloc_last _ _, by simp, Below.allocs _ _⟩
  generalize w.alloc (.cells (recA RecD.zero RS.none) 42) = w1 at *
  have HQ0 := Lib.hid hq0
  clear hq0
  go_upto_region 2 with (first
    | refine Rdr.wpList_build rfl 42 _ rfl [] rfl _ build_r0 ?_
    | refine wpList_store_row rfl 42 _ _ rfl w1.heap.size (recA RecD.zero RS.none) rfl rfl 42 (recA RecD.zero RS.none) (heap_alloc_last _ _) (sizeR _ rfl) rfl (recA_one _ _) ?_)
  try simp only [Act.put, List.setIfInBounds_toArray, List.set_cons_zero, List.set_cons_succ]
  have hq1 : ((w1.alloc (.cells (recA RecD.zero RS.none) 42)).setRow w1.heap.size (recA RecD.zero RS.none)).heap[w1.heap.size]? = some (.cells (recA RecD.zero RS.none) 42 (0, 0)) ∧ Below w1.heap.size w1 ((w1.alloc (.cells (recA RecD.zero RS.none) 42)).setRow w1.heap.size (recA RecD.zero RS.none)) ∧ ((w1.alloc (.cells (recA RecD.zero RS.none) 42)).setRow w1.heap.size (recA RecD.zero RS.none)).heap.size = w.heap.size + 2 := ⟨setRow_heap _ _ _ _ _ _ (heap_alloc_last _ _), below_setRow (Below.allocs _ _) (Nat.le_refl _) _, by have := HQ0.out.2.1; simp [World.setRow]; omega⟩
  generalize (w1.alloc (.cells (recA RecD.zero RS.none) 42)).setRow w1.heap.size (recA RecD.zero RS.none) = w2 at *
  have hs1 := HQ0.out.2.1
  rw [hs1] at hq1 ⊢
  have HQ1 : Hid (w2.heap[w.heap.size]? = some (.cells (recA RecD.zero RS.none) 42 (0, 0)) ∧ w2.heap[w.heap.size + 1]? = some (.cells (recA RecD.zero RS.none) 42 (0, 0)) ∧ w2.heap.size = w.heap.size + 2 ∧ Below w.heap.size w w2) := ⟨Below.keepBlock hq1.2.1 HQ0.out.1 (by omega), hq1.1, hq1.2.2, HQ0.out.2.2.trans (hq1.2.1.mono (by omega))⟩
  clear hs1 hq1 HQ0
  have hcb := HCB.out _ HQ1.out.2.2.2
  go_upto_region 5 with (first
    | refine Rdr.wpList_build rfl 42 _ rfl [(0, .int .i64 1)] rfl _ (build_rk _) ?_
    | refine wpList_store_row rfl 42 _ _ rfl w2.heap.size (recA ⟨1, 0, 0, 0, z16, [], .zero⟩ RS.none) rfl rfl 42 (recA RecD.zero RS.none) (heap_alloc_last _ _) (sizeR _ rfl) rfl (recA_one _ _) ?_)
  try simp only [Act.put, List.setIfInBounds_toArray, List.set_cons_zero, List.set_cons_succ]
  have hq5 : ((w2.alloc (.cells (recA RecD.zero RS.none) 42)).setRow w2.heap.size (recA ⟨1, 0, 0, 0, z16, [], .zero⟩ RS.none)).heap[w2.heap.size]? = some (.cells (recA ⟨1, 0, 0, 0, z16, [], .zero⟩ RS.none) 42 (0, 0)) ∧ Below w2.heap.size w2 ((w2.alloc (.cells (recA RecD.zero RS.none) 42)).setRow w2.heap.size (recA ⟨1, 0, 0, 0, z16, [], .zero⟩ RS.none)) ∧ ((w2.alloc (.cells (recA RecD.zero RS.none) 42)).setRow w2.heap.size (recA ⟨1, 0, 0, 0, z16, [], .zero⟩ RS.none)).heap.size = w.heap.size + 3 := ⟨setRow_heap _ _ _ _ _ _ (heap_alloc_last _ _), below_setRow (Below.allocs _ _) (Nat.le_refl _) _, by have := HQ1.out.2.2.1; simp [World.setRow]; omega⟩
  generalize (w2.alloc (.cells (recA RecD.zero RS.none) 42)).setRow w2.heap.size (recA ⟨1, 0, 0, 0, z16, [], .zero⟩ RS.none) = x0 at *
  have hs2 := HQ1.out.2.2.1
  rw [hs2] at hq5 ⊢
  have HD : Hid (QD w ⟨1, 0, 0, 0, z16, [], .zero⟩ RS.none x0) := ⟨Below.keepBlock hq5.2.1 HQ1.out.1 (by omega), Below.keepBlock hq5.2.1 HQ1.out.2.1 (by omega), hq5.1, HQ1.out.2.2.2.trans (hq5.2.1.mono (by have := HQ1.out.2.2.1; omega)), kind_wf HKB.out⟩
  have HX3 : Hid (x0.heap.size = w.heap.size + 3) := hq5.2.2
  clear hcb hs2 hq5 HQ1
  obtain ⟨a0, a1, a2, a3, a20, -, -, -, fz⟩ := HD.out.rw.cells
  go_upto_region 12 with fail
  have hrs := heap_alloc_last x0 (.cells #[.int .i64 0, .int .i64 6, .int .i64 25, .int .i64 0, .int .i64 5, .int .i64 0, .int .i64 33] 3)
  have hd1 := HD.out.below (Below.allocs x0 (.cells #[.int .i64 0, .int .i64 6, .int .i64 25, .int .i64 0, .int .i64 5, .int .i64 0, .int .i64 33] 3))
  rw [HX3.out] at hrs ⊢
  generalize x0.alloc (.cells #[.int .i64 0, .int .i64 6, .int .i64 25, .int .i64 0, .int .i64 5, .int .i64 0, .int .i64 33] 3) = x1 at *
  have z0 : x1.cell? ⟨w.heap.size + 3, 0, none⟩ = some (.int .i64 0) := by rw [cell_of_row _ _ _ _ _ _ hrs]; rfl
  have z1 : x1.cell? ⟨w.heap.size + 3, 1, none⟩ = some (.int .i64 6) := by rw [cell_of_row _ _ _ _ _ _ hrs]; rfl
  have z2 : x1.cell? ⟨w.heap.size + 3, 2, none⟩ = some (.int .i64 25) := by rw [cell_of_row _ _ _ _ _ _ hrs]; rfl
  have z3 : x1.cell? ⟨w.heap.size + 3, 3, none⟩ = some (.int .i64 0) := by rw [cell_of_row _ _ _ _ _ _ hrs]; rfl
  have z4 : x1.cell? ⟨w.heap.size + 3, 4, none⟩ = some (.int .i64 5) := by rw [cell_of_row _ _ _ _ _ _ hrs]; rfl
  have z6 : x1.cell? ⟨w.heap.size + 3, 6, none⟩ = some (.int .i64 33) := by rw [cell_of_row _ _ _ _ _ _ hrs]; rfl
  clear HD HX3 hrs a0 a1 a2 a3 a20 fz
  have HD := Lib.hid hd1
  clear hd1
  obtain ⟨a0, a1, a2, a3, a20, -, -, -, fz⟩ := HD.out.rw.cells
  obtain ⟨q9, hrun, hqb⟩ := cut3 l HB.out 1 4 1 5 (by omega) (by omega) (by omega)
  have HQB := Lib.hid hqb
  clear hqb
  go_wp2_with fail
  refine (value_any _ _ _ _ _ (HQB.out _ HD.out.low) (by omega)).mono ?_
  rintro e w' ⟨rfl, rfl⟩
  clear hrun HQB
  generalize Rdr.beN ((l.drop 1).take 4) = n1 at *
  have hdn := HD.out.put (HD.out.rw.ses n1 HV1.out)
  clear HD a0 a2 a3 a20 z0 z1 z2 z3 z4 z6
  go_upto_region 23 with fail
  clear a1 fz
  have HD := Lib.hid hdn
  clear hdn
  generalize x1.setCell ⟨w.heap.size + 2, 1, none⟩ (.int .u32 (n1 : Int)) = x2 at *
  obtain ⟨a0, a1, a2, a3, a20, -, -, -, fz⟩ := HD.out.rw.cells
  have hc5 := HC5.out _ HD.out.low
  have hdn := HD.out.put (HD.out.rw.quo q5 HQ5.out)
  clear HD
  go_upto_region 35 with fail
  clear hc5 a0 a1 a2 a3 a20 fz
  have HD := Lib.hid hdn
  clear hdn
  generalize x2.setCell ⟨w.heap.size + 2, 3, none⟩ (.int .u32 (q5 : Int)) = x3 at *
  skip
  obtain ⟨RX, hRX⟩ : ∃ RX : RecD, RX = ⟨1, n1, 0, q5, z16, [], .zero⟩ := ⟨_, rfl⟩
  have HAT : Hid (∀ x, RecAt x RX RS.none) := fun x => by
    have hw := HD.out.wf
    rw [hRX]
    exact ⟨hw, Sl.nil _ _, Is.nil _ _⟩
  rw [← hRX] at HD HDC
  clear hRX
  cases hr : RX.right with
  | true =>
    have HRT : Hid (RX.right = true) := hr
    have hdc := HDC.out
    rw [if_pos hr] at hdc
    have HFO := Lib.hid (HGD.out _ hdc)
    clear hdc HDC HGD HBD hr
    have HRX := Lib.hid (rright_any RX RS.none x3 (HAT.out _))
    go_wp2_with (refine wpList_load_row rfl 42 _ rfl (w.heap.size + 2) rfl 42 (recA RX RS.none) (0, 0) _ HD.out.r2 Tryd.underlying42 rfl (sizeR _ (recA_size HD.out.wf _)) ?_)
    refine HRX.out.mono ?_
    rintro e xr ⟨rfl, hbr⟩
    rw [HRT.out]
    have hdr := HD.out.below hbr
    clear HD hbr HRX
    have HD := Lib.hid hdr
    clear hdr
    go_wp2_with (first
      | refine wpList_load_row rfl 42 _ rfl (w.heap.size + 2) rfl 42 (recA RX RS.none) (0, 0) _ HD.out.r2 Tryd.underlying42 rfl (sizeR _ (recA_size HD.out.wf _)) ?_
      | refine wpList_store_row rfl 42 _ _ rfl w.heap.size (recA RX RS.none) rfl rfl 42 (recA RecD.zero RS.none) HD.out.r0 (sizeR _ (recA_size HD.out.wf _)) (by rw [recA_size HD.out.wf]; rfl) (recA_one _ _) ?_)
    have HS := Lib.hid (setRow_heap _ _ _ (recA RX RS.none) _ _ HD.out.r0)
    refine bodyPost_ret (Blk.results_cell_tmp2 rfl _ _ _ _ _ _ _ rfl HS.out Tryd.underlying42 rfl (sizeR _ (recA_size HD.out.wf _))) rfl ?_
    exact HFO.out _ _ (HAT.out _) (below_setRow HD.out.low (Nat.le_refl _) _)
  | false =>
    have HRT : Hid (RX.right = false) := hr
    have hdc := HDC.out
    rw [if_neg (by rw [hr]; decide)] at hdc
    have HF := Lib.hid (HBD.out 4 hdc)
    clear hdc HDC HGD HBD hr
    have HRX := Lib.hid (rright_any RX RS.none x3 (HAT.out _))
    go_wp2_with (refine wpList_load_row rfl 42 _ rfl (w.heap.size + 2) rfl 42 (recA RX RS.none) (0, 0) _ HD.out.r2 Tryd.underlying42 rfl (sizeR _ (recA_size HD.out.wf _)) ?_)
    refine HRX.out.mono ?_
    rintro e xr ⟨rfl, hbr⟩
    rw [HRT.out]
    have hdr := HD.out.below hbr
    clear HD hbr HRX
    have HD := Lib.hid hdr
    clear hdr
    go_wp2_with (first
      | refine wpList_load_row rfl 42 _ rfl (w.heap.size + 1) rfl 42 (recA RecD.zero RS.none) (0, 0) _ (HD.out.r1) Tryd.underlying42 rfl (sizeR _ rfl) ?_
      | refine wpList_store_row rfl 42 _ _ rfl w.heap.size (recA RecD.zero RS.none) rfl rfl 42 (recA RecD.zero RS.none) (HD.out.r0) (sizeR _ rfl) rfl (recA_one _ _) ?_)
    have HS := Lib.hid (setRow_heap _ _ _ (recA RecD.zero RS.none) _ _ (HD.out.r0))
    refine bodyPost_ret (Blk.results_cell_tmp2 rfl _ _ _ _ _ _ _ rfl HS.out Tryd.underlying42 rfl (sizeR _ rfl)) rfl ?_
    exact HF.out _ (below_setRow (HD.out.low) (Nat.le_refl _) _)
end Go.Proofs.YtdaigkcbmdcbcaaDoor.Rec

namespace Go.Proofs.YtdaigkcbmdcbcaaDoor.Rec
open Go.RowKit Go.Mir Go.Mir.Parts Wr Cod Blk

set_option maxRecDepth 100000 in
set_option maxHeartbeats 12800000 in
theorem rdecode_close (p0 : Option Addr) (n0 c0 : Nat) (l : List UInt8) (w : World) (hB : Bs w p0 n0 c0 l) (hn : n0 ≤ 1099511627776) (K : Nat) (h6 : K = 4) (hcx : ∀ w', Below w.heap.size w w' → ∀ a, p0 = some a → w'.cell? a = some (.int .u8 (K : Int)))
    (hdc : decR l = (if l.length < 5 then (.zero, 2) else if 5 < l.length then (.zero, 3) else (r4 l, 0))) (Q : RecD × Int)
    (hbd : ∀ ev : Int, decR l = (RecD.zero, ev) → ∀ w', Below w.heap.size w w' → DecP Q.1 Q.2 w (.returned (.tuple #[.agg (recA RecD.zero RS.none), .int .i64 ev])) w')
    (hgd : ∀ r, decR l = (r, 0) → ∀ t w', RecAt w' r t → Below w.heap.size w w' → DecP Q.1 Q.2 w (.returned (.tuple #[.agg (recA r t), .int .i64 0])) w') (hn1 : 1 ≤ n0) :
    Calls Tryd.prog 25 #[.slice p0 n0 c0] w (DecP Q.1 Q.2 w) := by
  have hz := zeroR
  have HB := Lib.hid hB
  have hle := hB.le
  have hmax := hB.max
  have HN : Hid (l.length = n0) := hB.length
  have HBD := Lib.hid hbd
  have HGD := Lib.hid hgd
  have hd : decide ((n0 : Int) < (1 : Int)) = false := decide_eq_false (by omega)
  obtain ⟨b, o, rfl⟩ := hB.addr (by omega) (by omega)
  have HCB : Hid (∀ w', Below w.heap.size w w' → w'.cell? ⟨b, o, none⟩ = some (.int .u8 4)) := fun w' hb => by rw [hcx w' hb _ rfl, h6]; rfl
  have HKB : Hid (-9223372036854775808 ≤ (4 : Int) ∧ (4 : Int) ≤ 9223372036854775807) := by show _ ∧ _; omega
  rw [HN.out] at hdc
  clear hB hcx h6 hbd hgd
  by_cases hs : n0 < 5
  · have e3 : decide ((n0 : Int) < 5) = true := decide_eq_true (by omega)
    have e3b : decide (n0 < 5) = true := decide_eq_true hs
    have HF := Lib.hid (HBD.out 2 (by rw [hdc, if_pos hs]))
    clear hdc hs HGD HBD
    go_enter Tryd.func25, Tryd.ntmps25
    go_upto_region 1 with fail
    have hq0 : (w.alloc (.cells (recA RecD.zero RS.none) 42)).heap[w.heap.size]? = some (.cells (recA RecD.zero RS.none) 42 (0, 0)) ∧ (w.alloc (.cells (recA RecD.zero RS.none) 42)).heap.size = w.heap.size + 1 ∧ Below w.heap.size w (w.alloc (.cells (recA RecD.zero RS.none) 42)) := ⟨heap_alloc_last _ _, by simp, Below.allocs _ _⟩
    generalize w.alloc (.cells (recA RecD.zero RS.none) 42) = w1 at *
    have HQ0 := Lib.hid hq0
    clear hq0
    go_upto_region 2 with (first
      | refine Rdr.wpList_build rfl 42 _ rfl [] rfl _ build_r0 ?_
      | refine wpList_store_row rfl 42 _ _ rfl w1.heap.size (recA RecD.zero RS.none) rfl rfl 42 (recA RecD.zero RS.none) (heap_alloc_last _ _) (sizeR _ rfl) rfl (recA_one _ _) ?_)
    try simp only [Act.put, List.setIfInBounds_toArray, List.set_cons_zero, List.set_cons_succ]
    have hq1 : ((w1.alloc (.cells (recA RecD.zero RS.none) 42)).setRow w1.heap.size (recA RecD.zero RS.none)).heap[w1.heap.size]? = some (.cells (recA RecD.zero RS.none) 42 (0, 0)) ∧ Below w1.heap.size w1 ((w1.alloc (.cells (recA RecD.zero RS.none) 42)).setRow w1.heap.size (recA RecD.zero RS.none)) ∧ ((w1.alloc (.cells (recA RecD.zero RS.none) 42)).setRow w1.heap.size (recA RecD.zero RS.none)).heap.size = w.heap.size + 2 := ⟨setRow_heap _ _ _ _ _ _ (heap_alloc_last _ _), below_setRow (Below.allocs _ _) (Nat.le_refl _) _, by have := HQ0.out.2.1; simp [World.setRow]; omega⟩
    generalize (w1.alloc (.cells (recA RecD.zero RS.none) 42)).setRow w1.heap.size (recA RecD.zero RS.none) = w2 at *
    have hs1 := HQ0.out.2.1
    rw [hs1] at hq1 ⊢
    have HQ1 : Hid (w2.heap[w.heap.size]? = some (.cells (recA RecD.zero RS.none) 42 (0, 0)) ∧ w2.heap[w.heap.size + 1]? = some (.cells (recA RecD.zero RS.none) 42 (0, 0)) ∧ w2.heap.size = w.heap.size + 2 ∧ Below w.heap.size w w2) := ⟨Below.keepBlock hq1.2.1 HQ0.out.1 (by omega), hq1.1, hq1.2.2, HQ0.out.2.2.trans (hq1.2.1.mono (by omega))⟩
    clear hs1 hq1 HQ0
    have hcb := HCB.out _ HQ1.out.2.2.2
    go_upto_region 5 with (first
      | refine Rdr.wpList_build rfl 42 _ rfl [(0, .int .i64 4)] rfl _ (build_rk _) ?_
      | refine wpList_store_row rfl 42 _ _ rfl w2.heap.size (recA ⟨4, 0, 0, 0, z16, [], .zero⟩ RS.none) rfl rfl 42 (recA RecD.zero RS.none) (heap_alloc_last _ _) (sizeR _ rfl) rfl (recA_one _ _) ?_)
    try simp only [Act.put, List.setIfInBounds_toArray, List.set_cons_zero, List.set_cons_succ]
    have hq5 : ((w2.alloc (.cells (recA RecD.zero RS.none) 42)).setRow w2.heap.size (recA ⟨4, 0, 0, 0, z16, [], .zero⟩ RS.none)).heap[w2.heap.size]? = some (.cells (recA ⟨4, 0, 0, 0, z16, [], .zero⟩ RS.none) 42 (0, 0)) ∧ Below w2.heap.size w2 ((w2.alloc (.cells (recA RecD.zero RS.none) 42)).setRow w2.heap.size (recA ⟨4, 0, 0, 0, z16, [], .zero⟩ RS.none)) ∧ ((w2.alloc (.cells (recA RecD.zero RS.none) 42)).setRow w2.heap.size (recA ⟨4, 0, 0, 0, z16, [], .zero⟩ RS.none)).heap.size = w.heap.size + 3 := ⟨setRow_heap _ _ _ _ _ _ (heap_alloc_last _ _), below_setRow (Below.allocs _ _) (Nat.le_refl _) _, by have := HQ1.out.2.2.1; simp [World.setRow]; omega⟩
    generalize (w2.alloc (.cells (recA RecD.zero RS.none) 42)).setRow w2.heap.size (recA ⟨4, 0, 0, 0, z16, [], .zero⟩ RS.none) = x0 at *
    have hs2 := HQ1.out.2.2.1
    rw [hs2] at hq5 ⊢
    have HD : Hid (QD w ⟨4, 0, 0, 0, z16, [], .zero⟩ RS.none x0) := ⟨Below.keepBlock hq5.2.1 HQ1.out.1 (by omega), Below.keepBlock hq5.2.1 HQ1.out.2.1 (by omega), hq5.1, HQ1.out.2.2.2.trans (hq5.2.1.mono (by have := HQ1.out.2.2.1; omega)), kind_wf HKB.out⟩
    have HX3 : Hid (x0.heap.size = w.heap.size + 3) := hq5.2.2
    clear hcb hs2 hq5 HQ1
    obtain ⟨a0, a1, a2, a3, a20, -, -, -, fz⟩ := HD.out.rw.cells
    go_upto_region 12 with fail
    have hrs := heap_alloc_last x0 (.cells #[.int .i64 0, .int .i64 6, .int .i64 25, .int .i64 0, .int .i64 5, .int .i64 0, .int .i64 33] 3)
    have hd1 := HD.out.below (Below.allocs x0 (.cells #[.int .i64 0, .int .i64 6, .int .i64 25, .int .i64 0, .int .i64 5, .int .i64 0, .int .i64 33] 3))
    rw [HX3.out] at hrs ⊢
    generalize x0.alloc (.cells #[.int .i64 0, .int .i64 6, .int .i64 25, .int .i64 0, .int .i64 5, .int .i64 0, .int .i64 33] 3) = x1 at *
    have z0 : x1.cell? ⟨w.heap.size + 3, 0, none⟩ = some (.int .i64 0) := by rw [cell_of_row _ _ _ _ _ _ hrs]; rfl
    have z1 : x1.cell? ⟨w.heap.size + 3, 1, none⟩ = some (.int .i64 6) := by rw [cell_of_row _ _ _ _ _ _ hrs]; rfl
    have z2 : x1.cell? ⟨w.heap.size + 3, 2, none⟩ = some (.int .i64 25) := by rw [cell_of_row _ _ _ _ _ _ hrs]; rfl
    have z3 : x1.cell? ⟨w.heap.size + 3, 3, none⟩ = some (.int .i64 0) := by rw [cell_of_row _ _ _ _ _ _ hrs]; rfl
    have z4 : x1.cell? ⟨w.heap.size + 3, 4, none⟩ = some (.int .i64 5) := by rw [cell_of_row _ _ _ _ _ _ hrs]; rfl
    have z6 : x1.cell? ⟨w.heap.size + 3, 6, none⟩ = some (.int .i64 33) := by rw [cell_of_row _ _ _ _ _ _ hrs]; rfl
    clear HD HX3 hrs a0 a1 a2 a3 a20 fz
    have HD := Lib.hid hd1
    clear hd1
    obtain ⟨a0, a1, a2, a3, a20, -, -, -, fz⟩ := HD.out.rw.cells
    go_wp2_with (first
      | refine wpList_load_row rfl 42 _ rfl (w.heap.size + 1) rfl 42 (recA RecD.zero RS.none) (0, 0) _ (HD.out.r1) Tryd.underlying42 rfl (sizeR _ rfl) ?_
      | refine wpList_store_row rfl 42 _ _ rfl w.heap.size (recA RecD.zero RS.none) rfl rfl 42 (recA RecD.zero RS.none) (HD.out.r0) (sizeR _ rfl) rfl (recA_one _ _) ?_)
    have HS := Lib.hid (setRow_heap _ _ _ (recA RecD.zero RS.none) _ _ (HD.out.r0))
    refine bodyPost_ret (Blk.results_cell_tmp2 rfl _ _ _ _ _ _ _ rfl HS.out Tryd.underlying42 rfl (sizeR _ rfl)) rfl ?_
    exact HF.out _ (below_setRow (HD.out.low) (Nat.le_refl _) _)
  have e3 : decide ((n0 : Int) < 5) = false := decide_eq_false (by omega)
  have e3b : decide (n0 < 5) = false := decide_eq_false hs
  rw [if_neg hs] at hdc
  have HV1 : Hid (Rdr.beN ((l.drop 1).take 4) < 4294967296) := ses_lt (by rw [HN.out]; omega)
  have HR1 : Hid (r4 l = ⟨4, Rdr.beN ((l.drop 1).take 4), 0, 0, z16, [], .zero⟩) := rfl
  have HDC := Lib.hid hdc
  clear hdc
  by_cases hg : 5 < n0
  · have e4 : decide ((5 : Int) < (n0 : Int)) = true := decide_eq_true (by omega)
    have e4b : decide (5 < n0) = true := decide_eq_true hg
    have HF := Lib.hid (HBD.out 3 (by rw [HDC.out, if_pos hg]))
    clear hg HDC HGD HBD
    go_enter Tryd.func25, Tryd.ntmps25
    go_upto_region 1 with fail
    have hq0 : (w.alloc (.cells (recA RecD.zero RS.none) 42)).heap[w.heap.size]? = some (.cells (recA RecD.zero RS.none) 42 (0, 0)) ∧ (w.alloc (.cells (recA RecD.zero RS.none) 42)).heap.size = w.heap.size + 1 ∧ Below w.heap.size w (w.alloc (.cells (recA RecD.zero RS.none) 42)) := ⟨heap_alloc_last _ _, by simp, Below.allocs _ _⟩
    generalize w.alloc (.cells (recA RecD.zero RS.none) 42) = w1 at *
    have HQ0 := Lib.hid hq0
    clear hq0
    go_upto_region 2 with (first
      | refine Rdr.wpList_build rfl 42 _ rfl [] rfl _ build_r0 ?_
      | refine wpList_store_row rfl 42 _ _ rfl w1.heap.size (recA RecD.zero RS.none) rfl rfl 42 (recA RecD.zero RS.none) (heap_alloc_last _ _) (sizeR _ rfl) rfl (recA_one _ _) ?_)
    try simp only [Act.put, List.setIfInBounds_toArray, List.set_cons_zero, List.set_cons_succ]
    have hq1 : ((w1.alloc (.cells (recA RecD.zero RS.none) 42)).setRow w1.heap.size (recA RecD.zero RS.none)).heap[w1.heap.size]? = some (.cells (recA RecD.zero RS.none) 42 (0, 0)) ∧ Below w1.heap.size w1 ((w1.alloc (.cells (recA RecD.zero RS.none) 42)).setRow w1.heap.size (recA RecD.zero RS.none)) ∧ ((w1.alloc (.cells (recA RecD.zero RS.none) 42)).setRow w1.heap.size (recA RecD.zero RS.none)).heap.size = w.heap.size + 2 := ⟨setRow_heap _ _ _ _ _ _ (heap_alloc_last _ _), below_setRow (Below.allocs _ _) (Nat.le_refl _) _, by have := HQ0.out.2.1; simp [World.setRow]; omega⟩
    generalize (w1.alloc (.cells (recA RecD.zero RS.none) 42)).setRow w1.heap.size (recA RecD.zero RS.none) = w2 at *
    have hs1 := HQ0.out.2.1
    rw [hs1] at hq1 ⊢
    have HQ1 : Hid (w2.heap[w.heap.size]? = some (.cells (recA RecD.zero RS.none) 42 (0, 0)) ∧ w2.heap[w.heap.size + 1]? = some (.cells (recA RecD.zero RS.none) 42 (0, 0)) ∧ w2.heap.size = w.heap.size + 2 ∧ Below w.heap.size w w2) := ⟨Below.keepBlock hq1.2.1 HQ0.out.1 (by omega), hq1.1, hq1.2.2, HQ0.out.2.2.trans (hq1.2.1.mono (by omega))⟩
    clear hs1 hq1 HQ0
    have hcb := HCB.out _ HQ1.out.2.2.2
    go_upto_region 5 with (first
      | refine Rdr.wpList_build rfl 42 _ rfl [(0, .int .i64 4)] rfl _ (build_rk _) ?_
      | refine wpList_store_row rfl 42 _ _ rfl w2.heap.size (recA ⟨4, 0, 0, 0, z16, [], .zero⟩ RS.none) rfl rfl 42 (recA RecD.zero RS.none) (heap_alloc_last _ _) (sizeR _ rfl) rfl (recA_one _ _) ?_)
    try simp only [Act.put, List.setIfInBounds_toArray, List.set_cons_zero, List.set_cons_succ]
    have hq5 : ((w2.alloc (.cells (recA RecD.zero RS.none) 42)).setRow w2.heap.size (recA ⟨4, 0, 0, 0, z16, [], .zero⟩ RS.none)).heap[w2.heap.size]? = some (.cells (recA ⟨4, 0, 0, 0, z16, [], .zero⟩ RS.none) 42 (0, 0)) ∧ Below w2.heap.size w2 ((w2.alloc (.cells (recA RecD.zero RS.none) 42)).setRow w2.heap.size (recA ⟨4, 0, 0, 0, z16, [], .zero⟩ RS.none)) ∧ ((w2.alloc (.cells (recA RecD.zero RS.none) 42)).setRow w2.heap.size (recA ⟨4, 0, 0, 0, z16, [], .zero⟩ RS.none)).heap.size = w.heap.size + 3 := ⟨setRow_heap _ _ _ _ _ _ (heap_alloc_last _ _), below_setRow (Below.allocs _ _) (Nat.le_refl _) _, by have := HQ1.out.2.2.1; simp [World.setRow]; omega⟩
    generalize (w2.alloc (.cells (recA RecD.zero RS.none) 42)).setRow w2.heap.size (recA ⟨4, 0, 0, 0, z16, [], .zero⟩ RS.none) = x0 at *
    have hs2 := HQ1.out.2.2.1
    rw [hs2] at hq5 ⊢
    have HD : Hid (QD w ⟨4, 0, 0, 0, z16, [], .zero⟩ RS.none x0) := ⟨Below.keepBlock hq5.2.1 HQ1.out.1 (by omega), Below.keepBlock hq5.2.1 HQ1.out.2.1 (by omega), hq5.1, HQ1.out.2.2.2.trans (hq5.2.1.mono (by have := HQ1.out.2.2.1; omega)), kind_wf HKB.out⟩
    have HX3 : Hid (x0.heap.size = w.heap.size + 3) := hq5.2.2
    clear hcb hs2 hq5 HQ1
    obtain ⟨a0, a1, a2, a3, a20, -, -, -, fz⟩ := HD.out.rw.cells
    go_upto_region 12 with fail
    have hrs := heap_alloc_last x0 (.cells #[.int .i64 0, .int .i64 6, .int .i64 25, .int .i64 0, .int .i64 5, .int .i64 0, .int .i64 33] 3)
    have hd1 := HD.out.below (Below.allocs x0 (.cells #[.int .i64 0, .int .i64 6, .int .i64 25, .int .i64 0, .int .i64 5, .int .i64 0, .int .i64 33] 3))
    rw [HX3.out] at hrs ⊢
    generalize x0.alloc (.cells #[.int .i64 0, .int .i64 6, .int .i64 25, .int .i64 0, .int .i64 5, .int .i64 0, .int .i64 33] 3) = x1 at *
    have z0 : x1.cell? ⟨w.heap.size + 3, 0, none⟩ = some (.int .i64 0) := by rw [cell_of_row _ _ _ _ _ _ hrs]; rfl
    have z1 : x1.cell? ⟨w.heap.size + 3, 1, none⟩ = some (.int .i64 6) := by rw [cell_of_row _ _ _ _ _ _ hrs]; rfl
    have z2 : x1.cell? ⟨w.heap.size + 3, 2, none⟩ = some (.int .i64 25) := by rw [cell_of_row _ _ _ _ _ _ hrs]; rfl
    have z3 : x1.cell? ⟨w.heap.size + 3, 3, none⟩ = some (.int .i64 0) := by rw [cell_of_row _ _ _ _ _ _ hrs]; rfl
    have z4 : x1.cell? ⟨w.heap.size + 3, 4, none⟩ = some (.int .i64 5) := by rw [cell_of_row _ _ _ _ _ _ hrs]; rfl
    have z6 : x1.cell? ⟨w.heap.size + 3, 6, none⟩ = some (.int .i64 33) := by rw [cell_of_row _ _ _ _ _ _ hrs]; rfl
    clear HD HX3 hrs a0 a1 a2 a3 a20 fz
    have HD := Lib.hid hd1
    clear hd1
    obtain ⟨a0, a1, a2, a3, a20, -, -, -, fz⟩ := HD.out.rw.cells
    obtain ⟨q9, hrun, hqb⟩ := cut3 l HB.out 1 4 1 5 (by omega) (by omega) (by omega)
    have HQB := Lib.hid hqb
    clear hqb
    go_wp2_with fail
    refine (value_any _ _ _ _ _ (HQB.out _ HD.out.low) (by omega)).mono ?_
    rintro e w' ⟨rfl, rfl⟩
    clear hrun HQB
    generalize Rdr.beN ((l.drop 1).take 4) = n1 at *
    have hdn := HD.out.put (HD.out.rw.ses n1 HV1.out)
    clear HD a0 a2 a3 a20 z0 z1 z2 z3 z4 z6
    go_upto_region 23 with fail
    clear a1 fz
    have HD := Lib.hid hdn
    clear hdn
    generalize x1.setCell ⟨w.heap.size + 2, 1, none⟩ (.int .u32 (n1 : Int)) = x2 at *
    obtain ⟨a0, a1, a2, a3, a20, -, -, -, fz⟩ := HD.out.rw.cells
    go_wp2_with (first
      | refine wpList_load_row rfl 42 _ rfl (w.heap.size + 1) rfl 42 (recA RecD.zero RS.none) (0, 0) _ (HD.out.r1) Tryd.underlying42 rfl (sizeR _ rfl) ?_
      | refine wpList_store_row rfl 42 _ _ rfl w.heap.size (recA RecD.zero RS.none) rfl rfl 42 (recA RecD.zero RS.none) (HD.out.r0) (sizeR _ rfl) rfl (recA_one _ _) ?_)
    have HS := Lib.hid (setRow_heap _ _ _ (recA RecD.zero RS.none) _ _ (HD.out.r0))
    refine bodyPost_ret (Blk.results_cell_tmp2 rfl _ _ _ _ _ _ _ rfl HS.out Tryd.underlying42 rfl (sizeR _ rfl)) rfl ?_
    exact HF.out _ (below_setRow (HD.out.low) (Nat.le_refl _) _)
  have e4 : decide ((5 : Int) < (n0 : Int)) = false := decide_eq_false (by omega)
  have e4b : decide (5 < n0) = false := decide_eq_false hg
  have hdc := HDC.out
  rw [if_neg hg, HR1.out] at hdc
  clear hg HDC HR1
  have HFO := Lib.hid (HGD.out _ hdc)
  clear hdc HGD HBD
  go_enter Tryd.func25, Tryd.ntmps25
  go_upto_region 1 with fail
  have hq0 : (w.alloc (.cells (recA RecD.zero RS.none) 42)).heap[w.heap.size]? = some (.cells (recA RecD.zero RS.none) 42 (0, 0)) ∧ (w.alloc (.cells (recA RecD.zero RS.none) 42)).heap.size = w.heap.size + 1 ∧ Below w.heap.size w (w.alloc (.cells (recA RecD.zero RS.none) 42)) := ⟨heap_alloc_last _ _, by simp, Below.allocs _ _⟩
  generalize w.alloc (.cells (recA RecD.zero RS.none) 42) = w1 at *
  have HQ0 := Lib.hid hq0
  clear hq0
  go_upto_region 2 with (first
    | refine Rdr.wpList_build rfl 42 _ rfl [] rfl _ build_r0 ?_
    | refine wpList_store_row rfl 42 _ _ rfl w1.heap.size (recA RecD.zero RS.none) rfl rfl 42 (recA RecD.zero RS.none) (heap_alloc_last _ _) (sizeR _ rfl) rfl (recA_one _ _) ?_)
  try simp only [Act.put, List.setIfInBounds_toArray, List.set_cons_zero, List.set_cons_succ]
  have hq1 : ((w1.alloc (.cells (recA RecD.zero RS.none) 42)).setRow w1.heap.size (recA RecD.zero RS.none)).heap[w1.heap.size]? = some (.cells (recA RecD.zero RS.none) 42 (0, 0)) ∧ Below w1.heap.size w1 ((w1.alloc (.cells (recA RecD.zero RS.none) 42)).setRow w1.heap.size (recA RecD.zero RS.none)) ∧ ((w1.alloc (.cells (recA RecD.zero RS.none) 42)).setRow w1.heap.size (recA RecD.zero RS.none)).heap.size = w.heap.size + 2 := ⟨setRow_heap _ _ _ _ _ _ (heap_alloc_last _ _), below_setRow (Below.allocs _ _) (Nat.le_refl _) _, by have := HQ0.out.2.1; simp [World.setRow]; omega⟩
  generalize (w1.alloc (.cells (recA RecD.zero RS.none) 42)).setRow w1.heap.size (recA RecD.zero RS.none) = w2 at *
  have hs1 := HQ0.out.2.1
  rw [hs1] at hq1 ⊢
  have HQ1 : Hid (w2.heap[w.heap.size]? = some (.cells (recA RecD.zero RS.none) 42 (0, 0)) ∧ w2.heap[w.heap.size + 1]? = some (.cells (recA RecD.zero RS.none) 42 (0, 0)) ∧ w2.heap.size = w.heap.size + 2 ∧ Below w.heap.size w w2) := ⟨Below.keepBlock hq1.2.1 HQ0.out.1 (by omega), hq1.1, hq1.2.2, HQ0.out.2.2.trans (hq1.2.1.mono (by omega))⟩
  clear hs1 hq1 HQ0
  have hcb := HCB.out _ HQ1.out.2.2.2
  go_upto_region 5 with (first
    | refine Rdr.wpList_build rfl 42 _ rfl [(0, .int .i64 4)] rfl _ (build_rk _) ?_
    | refine wpList_store_row rfl 42 _ _ rfl w2.heap.size (recA ⟨4, 0, 0, 0, z16, [], .zero⟩ RS.none) rfl rfl 42 (recA RecD.zero RS.none) (heap_alloc_last _ _) (sizeR _ rfl) rfl (recA_one _ _) ?_)
  try simp only [Act.put, List.setIfInBounds_toArray, List.set_cons_zero, List.set_cons_succ]
  have hq5 : ((w2.alloc (.cells (recA RecD.zero RS.none) 42)).setRow w2.heap.size (recA ⟨4, 0, 0, 0, z16, [], .zero⟩ RS.none)).heap[w2.heap.size]? = some (.cells (recA ⟨4, 0, 0, 0, z16, [], .zero⟩ RS.none) 42 (0, 0)) ∧ Below w2.heap.size w2 ((w2.alloc (.cells (recA RecD.zero RS.none) 42)).setRow w2.heap.size (recA ⟨4, 0, 0, 0, z16, [], .zero⟩ RS.none)) ∧ ((w2.alloc (.cells (recA RecD.zero RS.none) 42)).setRow w2.heap.size (recA ⟨4, 0, 0, 0, z16, [], .zero⟩ RS.none)).heap.size = w.heap.size + 3 := ⟨setRow_heap _ _ _ _ _ _ (heap_alloc_last _ _), below_setRow (Below.allocs _ _) (Nat.le_refl _) _, by have := HQ1.out.2.2.1; simp [World.setRow]; omega⟩
  generalize (w2.alloc (.cells (recA RecD.zero RS.none) 42)).setRow w2.heap.size (recA ⟨4, 0, 0, 0, z16, [], .zero⟩ RS.none) = x0 at *
  have hs2 := HQ1.out.2.2.1
  rw [hs2] at hq5 ⊢
  have HD : Hid (QD w ⟨4, 0, 0, 0, z16, [], .zero⟩ RS.none x0) := ⟨Below.keepBlock hq5.2.1 HQ1.out.1 (by omega), Below.keepBlock hq5.2.1 HQ1.out.2.1 (by omega), hq5.1, HQ1.out.2.2.2.trans (hq5.2.1.mono (by have := HQ1.out.2.2.1; omega)), kind_wf HKB.out⟩
  have HX3 : Hid (x0.heap.size = w.heap.size + 3) := hq5.2.2
  clear hcb hs2 hq5 HQ1
  obtain ⟨a0, a1, a2, a3, a20, -, -, -, fz⟩ := HD.out.rw.cells
  go_upto_region 12 with fail
  have hrs := heap_alloc_last x0 (.cells #[.int .i64 0, .int .i64 6, .int .i64 25, .int .i64 0, .int .i64 5, .int .i64 0, .int .i64 33] 3)
  have hd1 := HD.out.below (Below.allocs x0 (.cells #[.int .i64 0, .int .i64 6, .int .i64 25, .int .i64 0, .int .i64 5, .int .i64 0, .int .i64 33] 3))
  rw [HX3.out] at hrs ⊢
  generalize x0.alloc (.cells #[.int .i64 0, .int .i64 6, .int .i64 25, .int .i64 0, .int .i64 5, .int .i64 0, .int .i64 33] 3) = x1 at *
  have z0 : x1.cell? ⟨w.heap.size + 3, 0, none⟩ = some (.int .i64 0) := by rw [cell_of_row _ _ _ _ _ _ hrs]; rfl
  have z1 : x1.cell? ⟨w.heap.size + 3, 1, none⟩ = some (.int .i64 6) := by rw [cell_of_row _ _ _ _ _ _ hrs]; rfl
  have z2 : x1.cell? ⟨w.heap.size + 3, 2, none⟩ = some (.int .i64 25) := by rw [cell_of_row _ _ _ _ _ _ hrs]; rfl
  have z3 : x1.cell? ⟨w.heap.size + 3, 3, none⟩ = some (.int .i64 0) := by rw [cell_of_row _ _ _ _ _ _ hrs]; rfl
  have z4 : x1.cell? ⟨w.heap.size + 3, 4, none⟩ = some (.int .i64 5) := by rw [cell_of_row _ _ _ _ _ _ hrs]; rfl
  have z6 : x1.cell? ⟨w.heap.size + 3, 6, none⟩ = some (.int .i64 33) := by rw [cell_of_row _ _ _ _ _ _ hrs]; rfl
  clear HD HX3 hrs a0 a1 a2 a3 a20 fz
  have HD := Lib.hid hd1
  clear hd1
  obtain ⟨a0, a1, a2, a3, a20, -, -, -, fz⟩ := HD.out.rw.cells
  obtain ⟨q9, hrun, hqb⟩ := cut3 l HB.out 1 4 1 5 (by omega) (by omega) (by omega)
  have HQB := Lib.hid hqb
  clear hqb
  go_wp2_with fail
  refine (value_any _ _ _ _ _ (HQB.out _ HD.out.low) (by omega)).mono ?_
  rintro e w' ⟨rfl, rfl⟩
  clear hrun HQB
  generalize Rdr.beN ((l.drop 1).take 4) = n1 at *
  have hdn := HD.out.put (HD.out.rw.ses n1 HV1.out)
  clear HD a0 a2 a3 a20 z0 z1 z2 z3 z4 z6
  go_upto_region 23 with fail
  clear a1 fz
  have HD := Lib.hid hdn
  clear hdn
  generalize x1.setCell ⟨w.heap.size + 2, 1, none⟩ (.int .u32 (n1 : Int)) = x2 at *
  obtain ⟨a0, a1, a2, a3, a20, -, -, -, fz⟩ := HD.out.rw.cells
  have k0 : x2.cell? ⟨w.heap.size + 2, 0, none⟩ = some (.int .i64 4) := a0
  skip
  obtain ⟨RX, hRX⟩ : ∃ RX : RecD, RX = ⟨4, n1, 0, 0, z16, [], .zero⟩ := ⟨_, rfl⟩
  have HAT : Hid (∀ x, RecAt x RX RS.none) := fun x => by
    have hw := HD.out.wf
    rw [hRX]
    exact ⟨hw, Sl.nil _ _, Is.nil _ _⟩
  have HRT : Hid (RX.right = true) := by show _ = _; rw [hRX]; exact right4t
  rw [← hRX] at HD HFO
  clear hRX a0 a1 a2 a3 a20 fz
  skip
  have HRX := Lib.hid (rright_any RX RS.none x2 (HAT.out _))
  go_wp2_with (refine wpList_load_row rfl 42 _ rfl (w.heap.size + 2) rfl 42 (recA RX RS.none) (0, 0) _ HD.out.r2 Tryd.underlying42 rfl (sizeR _ (recA_size HD.out.wf _)) ?_)
  refine HRX.out.mono ?_
  rintro e xr ⟨rfl, hbr⟩
  rw [HRT.out]
  have hdr := HD.out.below hbr
  clear HD hbr HRX
  have HD := Lib.hid hdr
  clear hdr
  clear k0
  skip
  go_wp2_with (first
    | refine wpList_load_row rfl 42 _ rfl (w.heap.size + 2) rfl 42 (recA RX RS.none) (0, 0) _ HD.out.r2 Tryd.underlying42 rfl (sizeR _ (recA_size HD.out.wf _)) ?_
    | refine wpList_store_row rfl 42 _ _ rfl w.heap.size (recA RX RS.none) rfl rfl 42 (recA RecD.zero RS.none) HD.out.r0 (sizeR _ (recA_size HD.out.wf _)) (by rw [recA_size HD.out.wf]; rfl) (recA_one _ _) ?_)
  have HS := Lib.hid (setRow_heap _ _ _ (recA RX RS.none) _ _ HD.out.r0)
  refine bodyPost_ret (Blk.results_cell_tmp2 rfl _ _ _ _ _ _ _ rfl HS.out Tryd.underlying42 rfl (sizeR _ (recA_size HD.out.wf _))) rfl ?_
  exact HFO.out _ _ (HAT.out _) (below_setRow HD.out.low (Nat.le_refl _) _)
end Go.Proofs.YtdaigkcbmdcbcaaDoor.Rec

namespace Go.Proofs.YtdaigkcbmdcbcaaDoor.Rec
open Go.RowKit Go.Mir Go.Mir.Parts Wr Cod Blk

set_option maxRecDepth 100000 in
set_option maxHeartbeats 12800000 in
theorem rdecode_any (p0 : Option Addr) (n0 c0 : Nat) (l : List UInt8) (w : World) (hB : Bs w p0 n0 c0 l) (hn : n0 ≤ 1099511627776) :
    Calls Tryd.prog 25 #[.slice p0 n0 c0] w (DecP (decR l).1 (decR l).2 w) := by
  have hz := zeroR
  have hzb := zeroB
  have HB := Lib.hid hB
  have hle := hB.le
  have hmax := hB.max
  have HN : Hid (l.length = n0) := hB.length
  obtain ⟨Q, hQ⟩ : ∃ Q, decR l = Q := ⟨_, rfl⟩
  have HBD : Hid (∀ ev : Int, decR l = (RecD.zero, ev) → ∀ w', Below w.heap.size w w' → DecP Q.1 Q.2 w (.returned (.tuple #[.agg (recA RecD.zero RS.none), .int .i64 ev])) w') := fun ev he w' hb => by
    rw [← hQ, he]
    exact ⟨RS.none, rfl, zero_at _, hb⟩
  have HGD : Hid (∀ r, decR l = (r, 0) → ∀ t w', RecAt w' r t → Below w.heap.size w w' → DecP Q.1 Q.2 w (.returned (.tuple #[.agg (recA r t), .int .i64 0])) w') := fun r he t w' h hb => by
    rw [← hQ, he]
    exact ⟨t, rfl, h, hb⟩
  rw [hQ]
  clear hQ
  cases hll : l with
  | nil =>
    have hn0 : n0 = 0 := by rw [← HN.out, hll]; rfl
    have hd : decide ((n0 : Int) < (1 : Int)) = true := decide_eq_true (by omega)
    have HF := Lib.hid (HBD.out 2 (by rw [hll]; rfl))
    clear hll hn0 hB
    go_enter Tryd.func25, Tryd.ntmps25
    go_upto_region 1 with fail
    have hq0 : (w.alloc (.cells (recA RecD.zero RS.none) 42)).heap[w.heap.size]? = some (.cells (recA RecD.zero RS.none) 42 (0, 0)) ∧ (w.alloc (.cells (recA RecD.zero RS.none) 42)).heap.size = w.heap.size + 1 ∧ Below w.heap.size w (w.alloc (.cells (recA RecD.zero RS.none) 42)) := ⟨heap_alloc_last _ _, by simp, Below.allocs _ _⟩
    generalize w.alloc (.cells (recA RecD.zero RS.none) 42) = w1 at *
    have HQ0 := Lib.hid hq0
    clear hq0
    go_upto_region 2 with (first
      | refine Rdr.wpList_build rfl 42 _ rfl [] rfl _ build_r0 ?_
      | refine wpList_store_row rfl 42 _ _ rfl w1.heap.size (recA RecD.zero RS.none) rfl rfl 42 (recA RecD.zero RS.none) (heap_alloc_last _ _) (sizeR _ rfl) rfl (recA_one _ _) ?_)
    try simp only [Act.put, List.setIfInBounds_toArray, List.set_cons_zero, List.set_cons_succ]
    have hq1 : ((w1.alloc (.cells (recA RecD.zero RS.none) 42)).setRow w1.heap.size (recA RecD.zero RS.none)).heap[w1.heap.size]? = some (.cells (recA RecD.zero RS.none) 42 (0, 0)) ∧ Below w1.heap.size w1 ((w1.alloc (.cells (recA RecD.zero RS.none) 42)).setRow w1.heap.size (recA RecD.zero RS.none)) ∧ ((w1.alloc (.cells (recA RecD.zero RS.none) 42)).setRow w1.heap.size (recA RecD.zero RS.none)).heap.size = w.heap.size + 2 := ⟨setRow_heap _ _ _ _ _ _ (heap_alloc_last _ _), below_setRow (Below.allocs _ _) (Nat.le_refl _) _, by have := HQ0.out.2.1; simp [World.setRow]; omega⟩
    generalize (w1.alloc (.cells (recA RecD.zero RS.none) 42)).setRow w1.heap.size (recA RecD.zero RS.none) = w2 at *
    have hs1 := HQ0.out.2.1
    rw [hs1] at hq1 ⊢
    have HQ1 : Hid (w2.heap[w.heap.size]? = some (.cells (recA RecD.zero RS.none) 42 (0, 0)) ∧ w2.heap[w.heap.size + 1]? = some (.cells (recA RecD.zero RS.none) 42 (0, 0)) ∧ w2.heap.size = w.heap.size + 2 ∧ Below w.heap.size w w2) := ⟨Below.keepBlock hq1.2.1 HQ0.out.1 (by omega), hq1.1, hq1.2.2, HQ0.out.2.2.trans (hq1.2.1.mono (by omega))⟩
    clear hs1 hq1 HQ0
    go_wp2_with (first
      | refine wpList_load_row rfl 42 _ rfl (w.heap.size + 1) rfl 42 (recA RecD.zero RS.none) (0, 0) _ (HQ1.out.2.1) Tryd.underlying42 rfl (sizeR _ rfl) ?_
      | refine wpList_store_row rfl 42 _ _ rfl w.heap.size (recA RecD.zero RS.none) rfl rfl 42 (recA RecD.zero RS.none) (HQ1.out.1) (sizeR _ rfl) rfl (recA_one _ _) ?_)
    have HS := Lib.hid (setRow_heap _ _ _ (recA RecD.zero RS.none) _ _ (HQ1.out.1))
    refine bodyPost_ret (Blk.results_cell_tmp2 rfl _ _ _ _ _ _ _ rfl HS.out Tryd.underlying42 rfl (sizeR _ rfl)) rfl ?_
    exact HF.out _ (below_setRow (HQ1.out.2.2.2) (Nat.le_refl _) _)
  | cons k tl =>
    have hn1 : 1 ≤ n0 := by rw [← HN.out, hll]; simp
    have hd : decide ((n0 : Int) < (1 : Int)) = false := decide_eq_false (by omega)
    have hdc := dec_cons k tl l hll
    obtain ⟨b, o, rfl⟩ := hB.addr (by omega) (by omega)
    have HCX : Hid (∀ w', Below w.heap.size w w' → w'.cell? ⟨b, o, none⟩ = some (.int .u8 (k.toNat : Int))) := fun w' hb => by
      have h1 := Bs.byte (HB.out.below hb) (j := 0) (by rw [HN.out]; omega)
      rw [Nat.add_zero] at h1
      have h2 : l[0]'(by rw [HN.out]; omega) = k := by simp [hll]
      rw [h2] at h1; exact h1
    have hk256 := k.toNat_lt
    generalize k.toNat = K at *
    clear hll hB
    unfold decK at hdc
    by_cases h5 : K = 5
    · have HCB : Hid (∀ w', Below w.heap.size w w' → w'.cell? ⟨b, o, none⟩ = some (.int .u8 5)) := fun w' hb => by rw [HCX.out w' hb, h5]; rfl
      have HKB : Hid (-9223372036854775808 ≤ (5 : Int) ∧ (5 : Int) ≤ 9223372036854775807) := by show _ ∧ _; omega
      rw [if_pos h5] at hdc
      have HDC := Lib.hid hdc
      clear h5 hdc hk256 HCX
      go_enter Tryd.func25, Tryd.ntmps25
      go_upto_region 1 with fail
      have hq0 : (w.alloc (.cells (recA RecD.zero RS.none) 42)).heap[w.heap.size]? = some (.cells (recA RecD.zero RS.none) 42 (0, 0)) ∧ (w.alloc (.cells (recA RecD.zero RS.none) 42)).heap.size = w.heap.size + 1 ∧ Below w.heap.size w (w.alloc (.cells (recA RecD.zero RS.none) 42)) := ⟨heap_alloc_last _ _, by simp, Below.allocs _ _⟩
      generalize w.alloc (.cells (recA RecD.zero RS.none) 42) = w1 at *
      have HQ0 := Lib.hid hq0
      clear hq0
      go_upto_region 2 with (first
        | refine Rdr.wpList_build rfl 42 _ rfl [] rfl _ build_r0 ?_
        | refine wpList_store_row rfl 42 _ _ rfl w1.heap.size (recA RecD.zero RS.none) rfl rfl 42 (recA RecD.zero RS.none) (heap_alloc_last _ _) (sizeR _ rfl) rfl (recA_one _ _) ?_)
      try simp only [Act.put, List.setIfInBounds_toArray, List.set_cons_zero, List.set_cons_succ]
      have hq1 : ((w1.alloc (.cells (recA RecD.zero RS.none) 42)).setRow w1.heap.size (recA RecD.zero RS.none)).heap[w1.heap.size]? = some (.cells (recA RecD.zero RS.none) 42 (0, 0)) ∧ Below w1.heap.size w1 ((w1.alloc (.cells (recA RecD.zero RS.none) 42)).setRow w1.heap.size (recA RecD.zero RS.none)) ∧ ((w1.alloc (.cells (recA RecD.zero RS.none) 42)).setRow w1.heap.size (recA RecD.zero RS.none)).heap.size = w.heap.size + 2 := ⟨setRow_heap _ _ _ _ _ _ (heap_alloc_last _ _), below_setRow (Below.allocs _ _) (Nat.le_refl _) _, by have := HQ0.out.2.1; simp [World.setRow]; omega⟩
      generalize (w1.alloc (.cells (recA RecD.zero RS.none) 42)).setRow w1.heap.size (recA RecD.zero RS.none) = w2 at *
      have hs1 := HQ0.out.2.1
      rw [hs1] at hq1 ⊢
      have HQ1 : Hid (w2.heap[w.heap.size]? = some (.cells (recA RecD.zero RS.none) 42 (0, 0)) ∧ w2.heap[w.heap.size + 1]? = some (.cells (recA RecD.zero RS.none) 42 (0, 0)) ∧ w2.heap.size = w.heap.size + 2 ∧ Below w.heap.size w w2) := ⟨Below.keepBlock hq1.2.1 HQ0.out.1 (by omega), hq1.1, hq1.2.2, HQ0.out.2.2.trans (hq1.2.1.mono (by omega))⟩
      clear hs1 hq1 HQ0
      have hcb := HCB.out _ HQ1.out.2.2.2
      go_upto_region 5 with (first
        | refine Rdr.wpList_build rfl 42 _ rfl [(0, .int .i64 5)] rfl _ (build_rk _) ?_
        | refine wpList_store_row rfl 42 _ _ rfl w2.heap.size (recA ⟨5, 0, 0, 0, z16, [], .zero⟩ RS.none) rfl rfl 42 (recA RecD.zero RS.none) (heap_alloc_last _ _) (sizeR _ rfl) rfl (recA_one _ _) ?_)
      try simp only [Act.put, List.setIfInBounds_toArray, List.set_cons_zero, List.set_cons_succ]
      have hq5 : ((w2.alloc (.cells (recA RecD.zero RS.none) 42)).setRow w2.heap.size (recA ⟨5, 0, 0, 0, z16, [], .zero⟩ RS.none)).heap[w2.heap.size]? = some (.cells (recA ⟨5, 0, 0, 0, z16, [], .zero⟩ RS.none) 42 (0, 0)) ∧ Below w2.heap.size w2 ((w2.alloc (.cells (recA RecD.zero RS.none) 42)).setRow w2.heap.size (recA ⟨5, 0, 0, 0, z16, [], .zero⟩ RS.none)) ∧ ((w2.alloc (.cells (recA RecD.zero RS.none) 42)).setRow w2.heap.size (recA ⟨5, 0, 0, 0, z16, [], .zero⟩ RS.none)).heap.size = w.heap.size + 3 := ⟨setRow_heap _ _ _ _ _ _ (heap_alloc_last _ _), below_setRow (Below.allocs _ _) (Nat.le_refl _) _, by have := HQ1.out.2.2.1; simp [World.setRow]; omega⟩
      generalize (w2.alloc (.cells (recA RecD.zero RS.none) 42)).setRow w2.heap.size (recA ⟨5, 0, 0, 0, z16, [], .zero⟩ RS.none) = x0 at *
      have hs2 := HQ1.out.2.2.1
      rw [hs2] at hq5 ⊢
      have HD : Hid (QD w ⟨5, 0, 0, 0, z16, [], .zero⟩ RS.none x0) := ⟨Below.keepBlock hq5.2.1 HQ1.out.1 (by omega), Below.keepBlock hq5.2.1 HQ1.out.2.1 (by omega), hq5.1, HQ1.out.2.2.2.trans (hq5.2.1.mono (by have := HQ1.out.2.2.1; omega)), kind_wf HKB.out⟩
      have HX3 : Hid (x0.heap.size = w.heap.size + 3) := hq5.2.2
      clear hcb hs2 hq5 HQ1
      obtain ⟨a0, a1, a2, a3, a20, -, -, -, fz⟩ := HD.out.rw.cells
      have hrun := Cut.cutR HB.out 1 1 rfl (by omega)
      have hbc := Cut.bs_cut HB.out 1 (n0 - 1) (by omega)
      rw [List.take_of_length_le (by rw [List.length_drop, HN.out]; omega)] at hbc
      have HBC := Lib.hid (hbc.below HD.out.low)
      clear hbc
      generalize Cut.cutQ (some ⟨b, o, none⟩) c0 1 = qc at *
      obtain ⟨n1', hn1'⟩ : ∃ m, n0 - 1 = m := ⟨_, rfl⟩
      obtain ⟨c1', hc1'⟩ : ∃ m, c0 - 1 = m := ⟨_, rfl⟩
      rw [hn1', hc1'] at hrun HBC
      have hnl : n1' ≤ 1099511627776 := by omega
      have HDO := Lib.hid (Blk.rdecode_own qc n1' c1' (l.drop 1) _ HBC.out hnl)
      have HWB : Hid ((decB (l.drop 1)).1.wf) := Blk.dec_wf _
      have HR5 : Hid (r5 l = ⟨5, 0, 0, 0, z16, [], (decB (l.drop 1)).1⟩) := rfl
      generalize (decB (l.drop 1)).1 = DB at *
      generalize (decB (l.drop 1)).2 = ev at *
      clear hn1' hc1' hnl HBC
      go_wp2_with fail
      refine HDO.out.mono ?_
      rintro e x4 ⟨M, q, n, c, rfl, hbk, hloc, hb4⟩
      have hlt := HD.out.lt
      have hd4 := HD.out.below hb4
      obtain rfl := hbk.ids.count
      have HLO : Hid (∀ a, q = some a → w.heap.size + 2 < a.block) := fun a ha => by have := hloc a ha; omega
      have HZ := Lib.hid hbk.size
      have HO := Lib.hid hbk.one
      have HAR := Lib.hid hbk.arr
      have HID := Lib.hid hbk.ids
      clear HD hb4 hbk hloc hlt HDO hrun a0 a1 a2 a3 a20 fz HX3
      have HD := Lib.hid hd4
      clear hd4
      go_upto_region 7 with ((with_reducible refine wpStoreAt 6 ?_); refine wpList_store_row rfl 26 _ _ rfl x4.heap.size M rfl rfl 26 (blkA zeros zeros none 0 0) (heap_alloc_last _ _) (infoBlk _ HZ.out) (by rw [HZ.out]; rfl) HO.out ?_)
      try simp only [Act.put, List.setIfInBounds_toArray, List.set_cons_zero, List.set_cons_succ]
      have hr5 : ((x4.alloc (.cells (blkA zeros zeros none 0 0) 26)).setRow x4.heap.size M).heap[x4.heap.size]? = some (.cells M 26 (0, 0)) := setRow_heap _ _ _ _ _ _ (heap_alloc_last _ _)
      have hb5 : Below x4.heap.size x4 ((x4.alloc (.cells (blkA zeros zeros none 0 0) 26)).setRow x4.heap.size M) := below_setRow (Below.allocs _ _) (Nat.le_refl _) _
      generalize (x4.alloc (.cells (blkA zeros zeros none 0 0) 26)).setRow x4.heap.size M = x5 at *
      have hd5 := HD.out.below hb5
      have hid5 := HID.out.below hb5
      have HGB : Hid (w.heap.size + 2 < x4.heap.size) := HD.out.lt
      clear HD HID hb5
      have HD := Lib.hid hd5
      have HID := Lib.hid hid5
      have HRW := Lib.hid hr5
      clear hd5 hid5 hr5
      generalize x4.heap.size = gb at *
      by_cases hev : ev = 0
      · have e1 : (ev != 0) = false := by simp [hev]
        have hdc := HDC.out
        rw [if_neg (by simp [hev])] at hdc
        have HF := Lib.hid (HGD.out _ hdc)
        rw [HR5.out] at HF
        clear hev hdc HDC HGD HBD
        have hq := HD.out.rw.block DB HWB.out q c
        have HTH := Lib.hid (HD.out.rw.thereH 21 M.size (by rw [HZ.out]; omega))
        rw [← HAR.out] at hq
        have hid6 := is_touch HID.out hq.turn (fun a ha _ e => by have := HLO.out a ha; omega)
        have hd6 := HD.out.put hq
        clear HD HID hq
        have HD := Lib.hid hd6
        have HID := Lib.hid hid6
        clear hd6 hid6
        go_upto_region 10 with (first
          | ((with_reducible refine wpAt 35 ?_); refine wpList_load_row rfl 26 _ rfl gb rfl 26 M (0, 0) _ HRW.out Tryd.underlying26 rfl (infoBlk _ HZ.out) ?_)
          | refine wpList_store_mid rfl 26 _ _ rfl (w.heap.size + 2) 21 M rfl rfl HTH.out (infoBlk _ HZ.out) HO.out ?_)
        try simp only [Act.put, List.setIfInBounds_toArray, List.set_cons_zero, List.set_cons_succ]
        clear HTH HRW
        generalize x5.setCells (w.heap.size + 2) 21 M.toList = x6 at *
        go_wp2_with (first
          | refine wpList_load_row rfl 42 _ rfl (w.heap.size + 2) rfl 42 (recA ⟨5, 0, 0, 0, z16, [], DB⟩ ⟨none, 0, q, c⟩) (0, 0) _ HD.out.r2 Tryd.underlying42 rfl (sizeR _ (recA_size HD.out.wf _)) ?_
          | refine wpList_store_row rfl 42 _ _ rfl w.heap.size (recA ⟨5, 0, 0, 0, z16, [], DB⟩ ⟨none, 0, q, c⟩) rfl rfl 42 (recA RecD.zero RS.none) HD.out.r0 (sizeR _ (recA_size HD.out.wf _)) (by rw [recA_size HD.out.wf]; rfl) (recA_one _ _) ?_)
        have HS := Lib.hid (setRow_heap _ _ _ (recA ⟨5, 0, 0, 0, z16, [], DB⟩ ⟨none, 0, q, c⟩) _ _ HD.out.r0)
        refine bodyPost_ret (Blk.results_cell_tmp2 rfl _ _ _ _ _ _ _ rfl HS.out Tryd.underlying42 rfl (sizeR _ (recA_size HD.out.wf _))) rfl ?_
        exact HF.out _ _ ⟨HD.out.wf, Sl.nil _ _, is_touch HID.out (turns_setRow _ w.heap.size _) (fun a ha _ e => by have := HLO.out a ha; omega)⟩ (below_setRow HD.out.low (Nat.le_refl _) _)
      · have e1 : (ev != 0) = true := by simp [hev]
        have hdc := HDC.out
        rw [if_pos hev] at hdc
        have HF := Lib.hid (HBD.out _ hdc)
        clear hev hdc HDC HGD HBD
        skip
        go_wp2_with (first
          | refine wpList_load_row rfl 42 _ rfl (w.heap.size + 1) rfl 42 (recA RecD.zero RS.none) (0, 0) _ (HD.out.r1) Tryd.underlying42 rfl (sizeR _ rfl) ?_
          | refine wpList_store_row rfl 42 _ _ rfl w.heap.size (recA RecD.zero RS.none) rfl rfl 42 (recA RecD.zero RS.none) (HD.out.r0) (sizeR _ rfl) rfl (recA_one _ _) ?_)
        have HS := Lib.hid (setRow_heap _ _ _ (recA RecD.zero RS.none) _ _ (HD.out.r0))
        refine bodyPost_ret (Blk.results_cell_tmp2 rfl _ _ _ _ _ _ _ rfl HS.out Tryd.underlying42 rfl (sizeR _ rfl)) rfl ?_
        exact HF.out _ (below_setRow (HD.out.low) (Nat.le_refl _) _)
    rw [if_neg h5] at hdc
    have t5 : ((K : Int) == 5) = false := by rw [beq_eq_false_iff_ne]; omega
    by_cases h1 : K = 1
    · rw [if_pos h1] at hdc
      exact rdecode_open (some ⟨b, o, none⟩) n0 c0 l w HB.out hn K h1 (fun w' hb a ha => by cases ha; exact HCX.out w' hb) hdc Q HBD.out HGD.out hn1
    rw [if_neg h1] at hdc
    have t1 : ((K : Int) == 1) = false := by rw [beq_eq_false_iff_ne]; omega
    by_cases h2 : K = 2
    · rw [if_pos h2] at hdc
      exact rdecode_add (some ⟨b, o, none⟩) n0 c0 l w HB.out hn K h2 (fun w' hb a ha => by cases ha; exact HCX.out w' hb) hdc Q HBD.out HGD.out hn1
    rw [if_neg h2] at hdc
    have t2 : ((K : Int) == 2) = false := by rw [beq_eq_false_iff_ne]; omega
    by_cases h4 : K = 4
    · rw [if_pos h4] at hdc
      exact rdecode_close (some ⟨b, o, none⟩) n0 c0 l w HB.out hn K h4 (fun w' hb a ha => by cases ha; exact HCX.out w' hb) hdc Q HBD.out HGD.out hn1
    rw [if_neg h4] at hdc
    have t4 : ((K : Int) == 4) = false := by rw [beq_eq_false_iff_ne]; omega
    by_cases h6 : K = 6
    · rw [if_pos h6] at hdc
      exact rdecode_hash (some ⟨b, o, none⟩) n0 c0 l w HB.out hn K h6 (fun w' hb a ha => by cases ha; exact HCX.out w' hb) hdc Q HBD.out HGD.out hn1
    rw [if_neg h6] at hdc
    have HF := Lib.hid (HBD.out 4 hdc)
    clear hdc HGD HBD
    by_cases h0 : K = 0
    · have HCB : Hid (∀ w', Below w.heap.size w w' → w'.cell? ⟨b, o, none⟩ = some (.int .u8 0)) := fun w' hb => by rw [HCX.out w' hb, h0]; rfl
      have HKB : Hid (-9223372036854775808 ≤ (0 : Int) ∧ (0 : Int) ≤ 9223372036854775807) := by show _ ∧ _; omega
      clear h0 h1 h5 h2 h4 h6 hk256 HCX t5 t1 t2 t4
      go_enter Tryd.func25, Tryd.ntmps25
      go_upto_region 1 with fail
      have hq0 : (w.alloc (.cells (recA RecD.zero RS.none) 42)).heap[w.heap.size]? = some (.cells (recA RecD.zero RS.none) 42 (0, 0)) ∧ (w.alloc (.cells (recA RecD.zero RS.none) 42)).heap.size = w.heap.size + 1 ∧ Below w.heap.size w (w.alloc (.cells (recA RecD.zero RS.none) 42)) := ⟨heap_alloc_last _ _, by simp, Below.allocs _ _⟩
      generalize w.alloc (.cells (recA RecD.zero RS.none) 42) = w1 at *
      have HQ0 := Lib.hid hq0
      clear hq0
      go_upto_region 2 with (first
        | refine Rdr.wpList_build rfl 42 _ rfl [] rfl _ build_r0 ?_
        | refine wpList_store_row rfl 42 _ _ rfl w1.heap.size (recA RecD.zero RS.none) rfl rfl 42 (recA RecD.zero RS.none) (heap_alloc_last _ _) (sizeR _ rfl) rfl (recA_one _ _) ?_)
      try simp only [Act.put, List.setIfInBounds_toArray, List.set_cons_zero, List.set_cons_succ]
      have hq1 : ((w1.alloc (.cells (recA RecD.zero RS.none) 42)).setRow w1.heap.size (recA RecD.zero RS.none)).heap[w1.heap.size]? = some (.cells (recA RecD.zero RS.none) 42 (0, 0)) ∧ Below w1.heap.size w1 ((w1.alloc (.cells (recA RecD.zero RS.none) 42)).setRow w1.heap.size (recA RecD.zero RS.none)) ∧ ((w1.alloc (.cells (recA RecD.zero RS.none) 42)).setRow w1.heap.size (recA RecD.zero RS.none)).heap.size = w.heap.size + 2 := ⟨setRow_heap _ _ _ _ _ _ (heap_alloc_last _ _), below_setRow (Below.allocs _ _) (Nat.le_refl _) _, by have := HQ0.out.2.1; simp [World.setRow]; omega⟩
      generalize (w1.alloc (.cells (recA RecD.zero RS.none) 42)).setRow w1.heap.size (recA RecD.zero RS.none) = w2 at *
      have hs1 := HQ0.out.2.1
      rw [hs1] at hq1 ⊢
      have HQ1 : Hid (w2.heap[w.heap.size]? = some (.cells (recA RecD.zero RS.none) 42 (0, 0)) ∧ w2.heap[w.heap.size + 1]? = some (.cells (recA RecD.zero RS.none) 42 (0, 0)) ∧ w2.heap.size = w.heap.size + 2 ∧ Below w.heap.size w w2) := ⟨Below.keepBlock hq1.2.1 HQ0.out.1 (by omega), hq1.1, hq1.2.2, HQ0.out.2.2.trans (hq1.2.1.mono (by omega))⟩
      clear hs1 hq1 HQ0
      have hcb := HCB.out _ HQ1.out.2.2.2
      go_upto_region 5 with (first
        | refine Rdr.wpList_build rfl 42 _ rfl [(0, .int .i64 0)] rfl _ (build_rk _) ?_
        | refine wpList_store_row rfl 42 _ _ rfl w2.heap.size (recA ⟨0, 0, 0, 0, z16, [], .zero⟩ RS.none) rfl rfl 42 (recA RecD.zero RS.none) (heap_alloc_last _ _) (sizeR _ rfl) rfl (recA_one _ _) ?_)
      try simp only [Act.put, List.setIfInBounds_toArray, List.set_cons_zero, List.set_cons_succ]
      have hq5 : ((w2.alloc (.cells (recA RecD.zero RS.none) 42)).setRow w2.heap.size (recA ⟨0, 0, 0, 0, z16, [], .zero⟩ RS.none)).heap[w2.heap.size]? = some (.cells (recA ⟨0, 0, 0, 0, z16, [], .zero⟩ RS.none) 42 (0, 0)) ∧ Below w2.heap.size w2 ((w2.alloc (.cells (recA RecD.zero RS.none) 42)).setRow w2.heap.size (recA ⟨0, 0, 0, 0, z16, [], .zero⟩ RS.none)) ∧ ((w2.alloc (.cells (recA RecD.zero RS.none) 42)).setRow w2.heap.size (recA ⟨0, 0, 0, 0, z16, [], .zero⟩ RS.none)).heap.size = w.heap.size + 3 := ⟨setRow_heap _ _ _ _ _ _ (heap_alloc_last _ _), below_setRow (Below.allocs _ _) (Nat.le_refl _) _, by have := HQ1.out.2.2.1; simp [World.setRow]; omega⟩
      generalize (w2.alloc (.cells (recA RecD.zero RS.none) 42)).setRow w2.heap.size (recA ⟨0, 0, 0, 0, z16, [], .zero⟩ RS.none) = x0 at *
      have hs2 := HQ1.out.2.2.1
      rw [hs2] at hq5 ⊢
      have HD : Hid (QD w ⟨0, 0, 0, 0, z16, [], .zero⟩ RS.none x0) := ⟨Below.keepBlock hq5.2.1 HQ1.out.1 (by omega), Below.keepBlock hq5.2.1 HQ1.out.2.1 (by omega), hq5.1, HQ1.out.2.2.2.trans (hq5.2.1.mono (by have := HQ1.out.2.2.1; omega)), kind_wf HKB.out⟩
      have HX3 : Hid (x0.heap.size = w.heap.size + 3) := hq5.2.2
      clear hcb hs2 hq5 HQ1
      obtain ⟨a0, a1, a2, a3, a20, -, -, -, fz⟩ := HD.out.rw.cells
      go_upto_region 12 with fail
      have hrs := heap_alloc_last x0 (.cells #[.int .i64 0, .int .i64 6, .int .i64 25, .int .i64 0, .int .i64 5, .int .i64 0, .int .i64 33] 3)
      have hd1 := HD.out.below (Below.allocs x0 (.cells #[.int .i64 0, .int .i64 6, .int .i64 25, .int .i64 0, .int .i64 5, .int .i64 0, .int .i64 33] 3))
      rw [HX3.out] at hrs ⊢
      generalize x0.alloc (.cells #[.int .i64 0, .int .i64 6, .int .i64 25, .int .i64 0, .int .i64 5, .int .i64 0, .int .i64 33] 3) = x1 at *
      have z0 : x1.cell? ⟨w.heap.size + 3, 0, none⟩ = some (.int .i64 0) := by rw [cell_of_row _ _ _ _ _ _ hrs]; rfl
      have z1 : x1.cell? ⟨w.heap.size + 3, 1, none⟩ = some (.int .i64 6) := by rw [cell_of_row _ _ _ _ _ _ hrs]; rfl
      have z2 : x1.cell? ⟨w.heap.size + 3, 2, none⟩ = some (.int .i64 25) := by rw [cell_of_row _ _ _ _ _ _ hrs]; rfl
      have z3 : x1.cell? ⟨w.heap.size + 3, 3, none⟩ = some (.int .i64 0) := by rw [cell_of_row _ _ _ _ _ _ hrs]; rfl
      have z4 : x1.cell? ⟨w.heap.size + 3, 4, none⟩ = some (.int .i64 5) := by rw [cell_of_row _ _ _ _ _ _ hrs]; rfl
      have z6 : x1.cell? ⟨w.heap.size + 3, 6, none⟩ = some (.int .i64 33) := by rw [cell_of_row _ _ _ _ _ _ hrs]; rfl
      clear HD HX3 hrs a0 a1 a2 a3 a20 fz
      have HD := Lib.hid hd1
      clear hd1
      obtain ⟨a0, a1, a2, a3, a20, -, -, -, fz⟩ := HD.out.rw.cells
      go_wp2_with (first
        | refine wpList_load_row rfl 42 _ rfl (w.heap.size + 1) rfl 42 (recA RecD.zero RS.none) (0, 0) _ (HD.out.r1) Tryd.underlying42 rfl (sizeR _ rfl) ?_
        | refine wpList_store_row rfl 42 _ _ rfl w.heap.size (recA RecD.zero RS.none) rfl rfl 42 (recA RecD.zero RS.none) (HD.out.r0) (sizeR _ rfl) rfl (recA_one _ _) ?_)
      have HS := Lib.hid (setRow_heap _ _ _ (recA RecD.zero RS.none) _ _ (HD.out.r0))
      refine bodyPost_ret (Blk.results_cell_tmp2 rfl _ _ _ _ _ _ _ rfl HS.out Tryd.underlying42 rfl (sizeR _ rfl)) rfl ?_
      exact HF.out _ (below_setRow (HD.out.low) (Nat.le_refl _) _)
    by_cases h3 : K = 3
    · have HCB : Hid (∀ w', Below w.heap.size w w' → w'.cell? ⟨b, o, none⟩ = some (.int .u8 3)) := fun w' hb => by rw [HCX.out w' hb, h3]; rfl
      have HKB : Hid (-9223372036854775808 ≤ (3 : Int) ∧ (3 : Int) ≤ 9223372036854775807) := by show _ ∧ _; omega
      clear h0 h1 h5 h2 h4 h6 hk256 HCX t5 t1 t2 t4 h3
      go_enter Tryd.func25, Tryd.ntmps25
      go_upto_region 1 with fail
      have hq0 : (w.alloc (.cells (recA RecD.zero RS.none) 42)).heap[w.heap.size]? = some (.cells (recA RecD.zero RS.none) 42 (0, 0)) ∧ (w.alloc (.cells (recA RecD.zero RS.none) 42)).heap.size = w.heap.size + 1 ∧ Below w.heap.size w (w.alloc (.cells (recA RecD.zero RS.none) 42)) := ⟨heap_alloc_last _ _, by simp, Below.allocs _ _⟩
      generalize w.alloc (.cells (recA RecD.zero RS.none) 42) = w1 at *
      have HQ0 := Lib.hid hq0
      clear hq0
      go_upto_region 2 with (first
        | refine Rdr.wpList_build rfl 42 _ rfl [] rfl _ build_r0 ?_
        | refine wpList_store_row rfl 42 _ _ rfl w1.heap.size (recA RecD.zero RS.none) rfl rfl 42 (recA RecD.zero RS.none) (heap_alloc_last _ _) (sizeR _ rfl) rfl (recA_one _ _) ?_)
      try simp only [Act.put, List.setIfInBounds_toArray, List.set_cons_zero, List.set_cons_succ]
      have hq1 : ((w1.alloc (.cells (recA RecD.zero RS.none) 42)).setRow w1.heap.size (recA RecD.zero RS.none)).heap[w1.heap.size]? = some (.cells (recA RecD.zero RS.none) 42 (0, 0)) ∧ Below w1.heap.size w1 ((w1.alloc (.cells (recA RecD.zero RS.none) 42)).setRow w1.heap.size (recA RecD.zero RS.none)) ∧ ((w1.alloc (.cells (recA RecD.zero RS.none) 42)).setRow w1.heap.size (recA RecD.zero RS.none)).heap.size = w.heap.size + 2 := ⟨setRow_heap _ _ _ _ _ _ (heap_alloc_last _ _), below_setRow (Below.allocs _ _) (Nat.le_refl _) _, by have := HQ0.out.2.1; simp [World.setRow]; omega⟩
      generalize (w1.alloc (.cells (recA RecD.zero RS.none) 42)).setRow w1.heap.size (recA RecD.zero RS.none) = w2 at *
      have hs1 := HQ0.out.2.1
      rw [hs1] at hq1 ⊢
      have HQ1 : Hid (w2.heap[w.heap.size]? = some (.cells (recA RecD.zero RS.none) 42 (0, 0)) ∧ w2.heap[w.heap.size + 1]? = some (.cells (recA RecD.zero RS.none) 42 (0, 0)) ∧ w2.heap.size = w.heap.size + 2 ∧ Below w.heap.size w w2) := ⟨Below.keepBlock hq1.2.1 HQ0.out.1 (by omega), hq1.1, hq1.2.2, HQ0.out.2.2.trans (hq1.2.1.mono (by omega))⟩
      clear hs1 hq1 HQ0
      have hcb := HCB.out _ HQ1.out.2.2.2
      go_upto_region 5 with (first
        | refine Rdr.wpList_build rfl 42 _ rfl [(0, .int .i64 3)] rfl _ (build_rk _) ?_
        | refine wpList_store_row rfl 42 _ _ rfl w2.heap.size (recA ⟨3, 0, 0, 0, z16, [], .zero⟩ RS.none) rfl rfl 42 (recA RecD.zero RS.none) (heap_alloc_last _ _) (sizeR _ rfl) rfl (recA_one _ _) ?_)
      try simp only [Act.put, List.setIfInBounds_toArray, List.set_cons_zero, List.set_cons_succ]
      have hq5 : ((w2.alloc (.cells (recA RecD.zero RS.none) 42)).setRow w2.heap.size (recA ⟨3, 0, 0, 0, z16, [], .zero⟩ RS.none)).heap[w2.heap.size]? = some (.cells (recA ⟨3, 0, 0, 0, z16, [], .zero⟩ RS.none) 42 (0, 0)) ∧ Below w2.heap.size w2 ((w2.alloc (.cells (recA RecD.zero RS.none) 42)).setRow w2.heap.size (recA ⟨3, 0, 0, 0, z16, [], .zero⟩ RS.none)) ∧ ((w2.alloc (.cells (recA RecD.zero RS.none) 42)).setRow w2.heap.size (recA ⟨3, 0, 0, 0, z16, [], .zero⟩ RS.none)).heap.size = w.heap.size + 3 := ⟨setRow_heap _ _ _ _ _ _ (heap_alloc_last _ _), below_setRow (Below.allocs _ _) (Nat.le_refl _) _, by have := HQ1.out.2.2.1; simp [World.setRow]; omega⟩
      generalize (w2.alloc (.cells (recA RecD.zero RS.none) 42)).setRow w2.heap.size (recA ⟨3, 0, 0, 0, z16, [], .zero⟩ RS.none) = x0 at *
      have hs2 := HQ1.out.2.2.1
      rw [hs2] at hq5 ⊢
      have HD : Hid (QD w ⟨3, 0, 0, 0, z16, [], .zero⟩ RS.none x0) := ⟨Below.keepBlock hq5.2.1 HQ1.out.1 (by omega), Below.keepBlock hq5.2.1 HQ1.out.2.1 (by omega), hq5.1, HQ1.out.2.2.2.trans (hq5.2.1.mono (by have := HQ1.out.2.2.1; omega)), kind_wf HKB.out⟩
      have HX3 : Hid (x0.heap.size = w.heap.size + 3) := hq5.2.2
      clear hcb hs2 hq5 HQ1
      obtain ⟨a0, a1, a2, a3, a20, -, -, -, fz⟩ := HD.out.rw.cells
      go_upto_region 12 with fail
      have hrs := heap_alloc_last x0 (.cells #[.int .i64 0, .int .i64 6, .int .i64 25, .int .i64 0, .int .i64 5, .int .i64 0, .int .i64 33] 3)
      have hd1 := HD.out.below (Below.allocs x0 (.cells #[.int .i64 0, .int .i64 6, .int .i64 25, .int .i64 0, .int .i64 5, .int .i64 0, .int .i64 33] 3))
      rw [HX3.out] at hrs ⊢
      generalize x0.alloc (.cells #[.int .i64 0, .int .i64 6, .int .i64 25, .int .i64 0, .int .i64 5, .int .i64 0, .int .i64 33] 3) = x1 at *
      have z0 : x1.cell? ⟨w.heap.size + 3, 0, none⟩ = some (.int .i64 0) := by rw [cell_of_row _ _ _ _ _ _ hrs]; rfl
      have z1 : x1.cell? ⟨w.heap.size + 3, 1, none⟩ = some (.int .i64 6) := by rw [cell_of_row _ _ _ _ _ _ hrs]; rfl
      have z2 : x1.cell? ⟨w.heap.size + 3, 2, none⟩ = some (.int .i64 25) := by rw [cell_of_row _ _ _ _ _ _ hrs]; rfl
      have z3 : x1.cell? ⟨w.heap.size + 3, 3, none⟩ = some (.int .i64 0) := by rw [cell_of_row _ _ _ _ _ _ hrs]; rfl
      have z4 : x1.cell? ⟨w.heap.size + 3, 4, none⟩ = some (.int .i64 5) := by rw [cell_of_row _ _ _ _ _ _ hrs]; rfl
      have z6 : x1.cell? ⟨w.heap.size + 3, 6, none⟩ = some (.int .i64 33) := by rw [cell_of_row _ _ _ _ _ _ hrs]; rfl
      clear HD HX3 hrs a0 a1 a2 a3 a20 fz
      have HD := Lib.hid hd1
      clear hd1
      obtain ⟨a0, a1, a2, a3, a20, -, -, -, fz⟩ := HD.out.rw.cells
      go_wp2_with (first
        | refine wpList_load_row rfl 42 _ rfl (w.heap.size + 1) rfl 42 (recA RecD.zero RS.none) (0, 0) _ (HD.out.r1) Tryd.underlying42 rfl (sizeR _ rfl) ?_
        | refine wpList_store_row rfl 42 _ _ rfl w.heap.size (recA RecD.zero RS.none) rfl rfl 42 (recA RecD.zero RS.none) (HD.out.r0) (sizeR _ rfl) rfl (recA_one _ _) ?_)
      have HS := Lib.hid (setRow_heap _ _ _ (recA RecD.zero RS.none) _ _ (HD.out.r0))
      refine bodyPost_ret (Blk.results_cell_tmp2 rfl _ _ _ _ _ _ _ rfl HS.out Tryd.underlying42 rfl (sizeR _ rfl)) rfl ?_
      exact HF.out _ (below_setRow (HD.out.low) (Nat.le_refl _) _)
    have hK7 : 7 ≤ K := by omega
    have g1 : decide ((7 : Int) ≤ (K : Int)) = true := decide_eq_true (by omega)
    have g1b : decide (7 ≤ K) = true := decide_eq_true hK7
    have hwk : IntKind.i64.wrap (K : Int) = (K : Int) := IntWalk.i64_in _ (by omega)
    have HKB : Hid (-9223372036854775808 ≤ (K : Int) ∧ (K : Int) ≤ 9223372036854775807) := by show _ ∧ _; omega
    have HCB := HCX
    clear h0 h1 h5 h2 h4 h6 hk256 t1 t2 t4 h3 hK7 HCX
    go_enter Tryd.func25, Tryd.ntmps25
    go_upto_region 1 with fail
    have hq0 : (w.alloc (.cells (recA RecD.zero RS.none) 42)).heap[w.heap.size]? = some (.cells (recA RecD.zero RS.none) 42 (0, 0)) ∧ (w.alloc (.cells (recA RecD.zero RS.none) 42)).heap.size = w.heap.size + 1 ∧ Below w.heap.size w (w.alloc (.cells (recA RecD.zero RS.none) 42)) := ⟨heap_alloc_last _ _, by simp, Below.allocs _ _⟩
    generalize w.alloc (.cells (recA RecD.zero RS.none) 42) = w1 at *
    have HQ0 := Lib.hid hq0
    clear hq0
    go_upto_region 2 with (first
      | refine Rdr.wpList_build rfl 42 _ rfl [] rfl _ build_r0 ?_
      | refine wpList_store_row rfl 42 _ _ rfl w1.heap.size (recA RecD.zero RS.none) rfl rfl 42 (recA RecD.zero RS.none) (heap_alloc_last _ _) (sizeR _ rfl) rfl (recA_one _ _) ?_)
    try simp only [Act.put, List.setIfInBounds_toArray, List.set_cons_zero, List.set_cons_succ]
    have hq1 : ((w1.alloc (.cells (recA RecD.zero RS.none) 42)).setRow w1.heap.size (recA RecD.zero RS.none)).heap[w1.heap.size]? = some (.cells (recA RecD.zero RS.none) 42 (0, 0)) ∧ Below w1.heap.size w1 ((w1.alloc (.cells (recA RecD.zero RS.none) 42)).setRow w1.heap.size (recA RecD.zero RS.none)) ∧ ((w1.alloc (.cells (recA RecD.zero RS.none) 42)).setRow w1.heap.size (recA RecD.zero RS.none)).heap.size = w.heap.size + 2 := ⟨setRow_heap _ _ _ _ _ _ (heap_alloc_last _ _), below_setRow (Below.allocs _ _) (Nat.le_refl _) _, by have := HQ0.out.2.1; simp [World.setRow]; omega⟩
    generalize (w1.alloc (.cells (recA RecD.zero RS.none) 42)).setRow w1.heap.size (recA RecD.zero RS.none) = w2 at *
    have hs1 := HQ0.out.2.1
    rw [hs1] at hq1 ⊢
    have HQ1 : Hid (w2.heap[w.heap.size]? = some (.cells (recA RecD.zero RS.none) 42 (0, 0)) ∧ w2.heap[w.heap.size + 1]? = some (.cells (recA RecD.zero RS.none) 42 (0, 0)) ∧ w2.heap.size = w.heap.size + 2 ∧ Below w.heap.size w w2) := ⟨Below.keepBlock hq1.2.1 HQ0.out.1 (by omega), hq1.1, hq1.2.2, HQ0.out.2.2.trans (hq1.2.1.mono (by omega))⟩
    clear hs1 hq1 HQ0
    have hcb := HCB.out _ HQ1.out.2.2.2
    go_upto_region 5 with (first
      | refine Rdr.wpList_build rfl 42 _ rfl [(0, .int .i64 (K : Int))] rfl _ (build_rk _) ?_
      | refine wpList_store_row rfl 42 _ _ rfl w2.heap.size (recA ⟨(K : Int), 0, 0, 0, z16, [], .zero⟩ RS.none) rfl rfl 42 (recA RecD.zero RS.none) (heap_alloc_last _ _) (sizeR _ rfl) rfl (recA_one _ _) ?_)
    try simp only [Act.put, List.setIfInBounds_toArray, List.set_cons_zero, List.set_cons_succ]
    have hq5 : ((w2.alloc (.cells (recA RecD.zero RS.none) 42)).setRow w2.heap.size (recA ⟨(K : Int), 0, 0, 0, z16, [], .zero⟩ RS.none)).heap[w2.heap.size]? = some (.cells (recA ⟨(K : Int), 0, 0, 0, z16, [], .zero⟩ RS.none) 42 (0, 0)) ∧ Below w2.heap.size w2 ((w2.alloc (.cells (recA RecD.zero RS.none) 42)).setRow w2.heap.size (recA ⟨(K : Int), 0, 0, 0, z16, [], .zero⟩ RS.none)) ∧ ((w2.alloc (.cells (recA RecD.zero RS.none) 42)).setRow w2.heap.size (recA ⟨(K : Int), 0, 0, 0, z16, [], .zero⟩ RS.none)).heap.size = w.heap.size + 3 := ⟨setRow_heap _ _ _ _ _ _ (heap_alloc_last _ _), below_setRow (Below.allocs _ _) (Nat.le_refl _) _, by have := HQ1.out.2.2.1; simp [World.setRow]; omega⟩
    generalize (w2.alloc (.cells (recA RecD.zero RS.none) 42)).setRow w2.heap.size (recA ⟨(K : Int), 0, 0, 0, z16, [], .zero⟩ RS.none) = x0 at *
    have hs2 := HQ1.out.2.2.1
    rw [hs2] at hq5 ⊢
    have HD : Hid (QD w ⟨(K : Int), 0, 0, 0, z16, [], .zero⟩ RS.none x0) := ⟨Below.keepBlock hq5.2.1 HQ1.out.1 (by omega), Below.keepBlock hq5.2.1 HQ1.out.2.1 (by omega), hq5.1, HQ1.out.2.2.2.trans (hq5.2.1.mono (by have := HQ1.out.2.2.1; omega)), kind_wf HKB.out⟩
    have HX3 : Hid (x0.heap.size = w.heap.size + 3) := hq5.2.2
    clear hcb hs2 hq5 HQ1
    obtain ⟨a0, a1, a2, a3, a20, -, -, -, fz⟩ := HD.out.rw.cells
    go_upto_region 12 with fail
    have hrs := heap_alloc_last x0 (.cells #[.int .i64 0, .int .i64 6, .int .i64 25, .int .i64 0, .int .i64 5, .int .i64 0, .int .i64 33] 3)
    have hd1 := HD.out.below (Below.allocs x0 (.cells #[.int .i64 0, .int .i64 6, .int .i64 25, .int .i64 0, .int .i64 5, .int .i64 0, .int .i64 33] 3))
    rw [HX3.out] at hrs ⊢
    generalize x0.alloc (.cells #[.int .i64 0, .int .i64 6, .int .i64 25, .int .i64 0, .int .i64 5, .int .i64 0, .int .i64 33] 3) = x1 at *
    have z0 : x1.cell? ⟨w.heap.size + 3, 0, none⟩ = some (.int .i64 0) := by rw [cell_of_row _ _ _ _ _ _ hrs]; rfl
    have z1 : x1.cell? ⟨w.heap.size + 3, 1, none⟩ = some (.int .i64 6) := by rw [cell_of_row _ _ _ _ _ _ hrs]; rfl
    have z2 : x1.cell? ⟨w.heap.size + 3, 2, none⟩ = some (.int .i64 25) := by rw [cell_of_row _ _ _ _ _ _ hrs]; rfl
    have z3 : x1.cell? ⟨w.heap.size + 3, 3, none⟩ = some (.int .i64 0) := by rw [cell_of_row _ _ _ _ _ _ hrs]; rfl
    have z4 : x1.cell? ⟨w.heap.size + 3, 4, none⟩ = some (.int .i64 5) := by rw [cell_of_row _ _ _ _ _ _ hrs]; rfl
    have z6 : x1.cell? ⟨w.heap.size + 3, 6, none⟩ = some (.int .i64 33) := by rw [cell_of_row _ _ _ _ _ _ hrs]; rfl
    clear HD HX3 hrs a0 a1 a2 a3 a20 fz
    have HD := Lib.hid hd1
    clear hd1
    obtain ⟨a0, a1, a2, a3, a20, -, -, -, fz⟩ := HD.out.rw.cells
    go_wp2_with (first
      | refine wpList_load_row rfl 42 _ rfl (w.heap.size + 1) rfl 42 (recA RecD.zero RS.none) (0, 0) _ (HD.out.r1) Tryd.underlying42 rfl (sizeR _ rfl) ?_
      | refine wpList_store_row rfl 42 _ _ rfl w.heap.size (recA RecD.zero RS.none) rfl rfl 42 (recA RecD.zero RS.none) (HD.out.r0) (sizeR _ rfl) rfl (recA_one _ _) ?_)
    have HS := Lib.hid (setRow_heap _ _ _ (recA RecD.zero RS.none) _ _ (HD.out.r0))
    refine bodyPost_ret (Blk.results_cell_tmp2 rfl _ _ _ _ _ _ _ rfl HS.out Tryd.underlying42 rfl (sizeR _ rfl)) rfl ?_
    exact HF.out _ (below_setRow (HD.out.low) (Nat.le_refl _) _)
end Go.Proofs.YtdaigkcbmdcbcaaDoor.Rec

namespace Go.Proofs.YtdaigkcbmdcbcaaDoor.Rec
open Go.RowKit Go.Mir Go.Mir.Parts Wr Cod Rdr Blk

set_option maxRecDepth 100000 in
set_option maxHeartbeats 6400000 in
theorem law_reads (p : Option Addr) (n c : Nat) (l : List UInt8) (w : World) (hE : EType w) (hB : Bs w p n c l) :
    Calls Tryd.prog 6 #[.slice p n c] w fun e w' => e = .returned (.bool true) ∧ Below w.heap.size w w' := by
  have hz := zeroR
  have HE := Lib.hid hE
  have HB := Lib.hid hB
  have hle := hB.le
  have hmax := hB.max
  have HN := Lib.hid hB.length
  clear hE hB
  by_cases hbig : 3000 < n
  · have hd : decide ((3000 : Int) < (n : Int)) = true := decide_eq_true (by omega)
    have HB2 : Hid (Below w.heap.size w w) := Below.refl _ _
    have HE2 := HE
    go_enter Tryd.func6, Tryd.ntmps6
    go_wp2_with fail
    refine (alive17_any _ HE2.out).mono ?_
    rintro e w9 ⟨rfl, hb9⟩
    have HB9 := Lib.hid (HB2.out.trans (hb9.mono HB2.out.size))
    clear hb9
    go_wp2_with fail
    go_ret
    exact ⟨rfl, HB9.out⟩
  have hd : decide ((3000 : Int) < (n : Int)) = false := decide_eq_false (by omega)
  obtain ⟨d, ev, hdm⟩ : ∃ d ev, decR l = (d, ev) := ⟨_, _, rfl⟩
  have HD1 := Lib.hid (fun w (hE : EType w) (hB : Bs w p n c l) => decode_any p n c l w hE hB (by omega))
  have HD2 := Lib.hid (fun w (hB : Bs w p n c l) => rdecode_any p n c l w hB (by omega))
  unfold DecP at HD1 HD2
  have hwd := dec_wf l
  rw [hdm] at HD1 HD2 hwd
  have HWD0 := Lib.hid hwd
  clear hwd
  by_cases hev : ev = 0
  · have hb := dec_back (b := l) (by rw [hdm]; exact hev)
    rw [hdm] at hb
    have HRT : Hid (d.right = true) := hb.1
    have HEN : Hid (d.enc = (l, 0)) := by show _ = _; unfold RecD.enc; rw [if_pos hb.1]; exact congrArg (·, (0 : Int)) hb.2
    have HWD : Hid (d.wf) := HWD0.out
    subst hev
    clear hb hdm HWD0
    go_enter Tryd.func6, Tryd.ntmps6
    go_wp2_with fail
    refine (HD1.out _ HE.out HB.out).mono ?_
    rintro e w1 ⟨t1, rfl, hm1, hb1⟩
    have HM1 := Lib.hid hm1
    have HB1 := Lib.hid hb1
    clear hm1 hb1
    go_upto_region 4 with ((with_reducible refine wpStoreAt 3 ?_); refine wpList_store_row rfl 42 _ _ rfl w1.heap.size (recA d t1) rfl rfl 42 (recA RecD.zero RS.none) (heap_alloc_last _ _) (sizeR _ (recA_size HWD.out _)) (by rw [recA_size HWD.out]; rfl) (recA_one _ _) ?_)
    try simp only [Act.put, List.setIfInBounds_toArray, List.set_cons_zero, List.set_cons_succ]
    obtain ⟨w2, hw2⟩ : ∃ w2, w2 = (w1.alloc (.cells (recA RecD.zero RS.none) 42)).setRow w1.heap.size (recA d t1) := ⟨_, rfl⟩
    rw [← hw2]
    have HR2 : Hid (w2.heap[w1.heap.size]? = some (.cells (recA d t1) 42 (0, 0))) := by rw [hw2]; exact setRow_heap _ _ _ _ _ _ (heap_alloc_last _ _)
    have hb2 : Below w1.heap.size w1 w2 := by rw [hw2]; exact below_setRow (Below.allocs _ _) (Nat.le_refl _) _
    have HM2 := Lib.hid (HM1.out.below hb2)
    have HB2 := Lib.hid (HB1.out.trans (hb2.mono HB1.out.size))
    clear hb2 hw2 HM1 HB1
    go_wp2_with fail
    refine (HD2.out _ (HB.out.below HB2.out)).mono ?_
    rintro e w3 ⟨t3, rfl, hm3, hb3⟩
    have HM3 := Lib.hid hm3
    have HB3 := Lib.hid hb3
    clear hm3 hb3
    go_upto_region 5 with ((with_reducible refine wpStoreAt 5 ?_); refine wpList_store_row rfl 42 _ _ rfl w3.heap.size (recA d t3) rfl rfl 42 (recA RecD.zero RS.none) (heap_alloc_last _ _) (sizeR _ (recA_size HWD.out _)) (by rw [recA_size HWD.out]; rfl) (recA_one _ _) ?_)
    try simp only [Act.put, List.setIfInBounds_toArray, List.set_cons_zero, List.set_cons_succ]
    obtain ⟨w4, hw4⟩ : ∃ w4, w4 = (w3.alloc (.cells (recA RecD.zero RS.none) 42)).setRow w3.heap.size (recA d t3) := ⟨_, rfl⟩
    rw [← hw4]
    have HR4 : Hid (w4.heap[w3.heap.size]? = some (.cells (recA d t3) 42 (0, 0))) := by rw [hw4]; exact setRow_heap _ _ _ _ _ _ (heap_alloc_last _ _)
    have hb4 : Below w3.heap.size w3 w4 := by rw [hw4]; exact below_setRow (Below.allocs _ _) (Nat.le_refl _) _
    have hb24 : Below w2.heap.size w2 w4 := HB3.out.trans (hb4.mono HB3.out.size)
    have HR24 := Lib.hid (Below.keepOld hb24 HR2.out)
    have HM4 := Lib.hid (HM3.out.below hb4)
    have HM24 := Lib.hid (HM2.out.below hb24)
    have HB4 := Lib.hid (HB2.out.trans (hb24.mono HB2.out.size))
    clear hb24 hb4 hw4 HM3 HB3 HM2 HB2 HR2
    go_wp2_with (first
      | refine wpList_load_row rfl 42 _ rfl w1.heap.size rfl 42 (recA d t1) (0, 0) _ HR24.out Tryd.underlying42 rfl (sizeR _ (recA_size HWD.out _)) ?_
      | refine wpList_load_row rfl 42 _ rfl w3.heap.size rfl 42 (recA d t3) (0, 0) _ HR4.out Tryd.underlying42 rfl (sizeR _ (recA_size HWD.out _)) ?_)
    refine (rsame_any d d t1 t3 _ HM24.out HM4.out).mono ?_
    rintro e w5 ⟨rfl, hb5⟩
    rw [same_self]
    have HB5 := Lib.hid (HB4.out.trans (hb5.mono HB4.out.size))
    have hr5 := Below.keepOld hb5 HR24.out
    have hm5 := HM24.out.below hb5
    clear HR24 HR4 HM24 HM4 HB4 hb5
    have HR24 := Lib.hid hr5
    have HM24 := Lib.hid hm5
    clear hr5 hm5
    go_wp2_with (first
      | refine wpList_load_row rfl 42 _ rfl w1.heap.size rfl 42 (recA d t1) (0, 0) _ HR24.out Tryd.underlying42 rfl (sizeR _ (recA_size HWD.out _)) ?_
      | refine Rdr.wpList_build rfl 42 _ rfl [] rfl _ build_r0 ?_)
    have henc := encode_any d t1 w5 HM24.out
    unfold EncP at henc
    rw [HEN.out] at henc
    refine henc.mono ?_
    clear henc
    rintro e w6 ⟨p6, c6, rfl, hs6, hb6⟩
    have HB6 := Lib.hid (HB5.out.trans (hb6.mono HB5.out.size))
    have hcv := run_conv (P := Tryd.prog) 29 9 5 Tryd.underlying29 Tryd.underlying5 Tryd.underlying9 hs6
    have hcv2 := run_conv (P := Tryd.prog) 29 9 5 Tryd.underlying29 Tryd.underlying5 Tryd.underlying9 (HB.out.below HB6.out)
    have hr6 := Below.keepOld hb6 HR24.out
    have hm6 := HM24.out.below hb6
    clear HR24 HM24 hb6 hs6
    have HR24 := Lib.hid hr6
    have HM24 := Lib.hid hm6
    have HLN : Hid (l.length = n) := HN.out
    clear hr6 hm6
    go_wp2_with ((with_reducible refine wpAt 55 ?_); refine wpList_unguard (by rfl) ?_; refine wpList_load_row rfl 42 _ rfl w1.heap.size rfl 42 (recA d t1) (0, 0) _ HR24.out Tryd.underlying42 rfl (sizeR _ (recA_size HWD.out _)) ?_)
    clear hcv hcv2
    refine (right_any d t1 _ HM24.out).mono ?_
    rintro e w7 ⟨rfl, hb7⟩
    rw [HRT.out]
    have HB2 := Lib.hid (HB6.out.trans (hb7.mono HB6.out.size))
    clear hb7
    have HE2 := Lib.hid (HE.out.below HB2.out HE.out.lt)
    skip
    go_wp2_with fail
    refine (alive17_any _ HE2.out).mono ?_
    rintro e w9 ⟨rfl, hb9⟩
    have HB9 := Lib.hid (HB2.out.trans (hb9.mono HB2.out.size))
    clear hb9
    go_wp2_with fail
    go_ret
    exact ⟨rfl, HB9.out⟩
  · have hzm := dec_zero (b := l) (by rw [hdm]; exact hev)
    rw [hdm] at hzm
    dsimp only at hzm
    subst hzm
    have hbe : (ev != 0) = true := by simp [hev]
    clear hev hdm
    obtain ⟨d, hd0⟩ : ∃ d : RecD, d = RecD.zero := ⟨_, rfl⟩
    rw [← hd0] at HD1 HD2
    have HWD : Hid (d.wf) := by show d.wf; rw [hd0]; exact zero_wf
    have HD0 := Lib.hid hd0
    clear hd0 HWD0
    go_enter Tryd.func6, Tryd.ntmps6
    go_wp2_with fail
    refine (HD1.out _ HE.out HB.out).mono ?_
    rintro e w1 ⟨t1, rfl, hm1, hb1⟩
    have HM1 := Lib.hid hm1
    have HB1 := Lib.hid hb1
    clear hm1 hb1
    go_upto_region 4 with ((with_reducible refine wpStoreAt 3 ?_); refine wpList_store_row rfl 42 _ _ rfl w1.heap.size (recA d t1) rfl rfl 42 (recA RecD.zero RS.none) (heap_alloc_last _ _) (sizeR _ (recA_size HWD.out _)) (by rw [recA_size HWD.out]; rfl) (recA_one _ _) ?_)
    try simp only [Act.put, List.setIfInBounds_toArray, List.set_cons_zero, List.set_cons_succ]
    obtain ⟨w2, hw2⟩ : ∃ w2, w2 = (w1.alloc (.cells (recA RecD.zero RS.none) 42)).setRow w1.heap.size (recA d t1) := ⟨_, rfl⟩
    rw [← hw2]
    have HR2 : Hid (w2.heap[w1.heap.size]? = some (.cells (recA d t1) 42 (0, 0))) := by rw [hw2]; exact setRow_heap _ _ _ _ _ _ (heap_alloc_last _ _)
    have hb2 : Below w1.heap.size w1 w2 := by rw [hw2]; exact below_setRow (Below.allocs _ _) (Nat.le_refl _) _
    have HM2 := Lib.hid (HM1.out.below hb2)
    have HB2 := Lib.hid (HB1.out.trans (hb2.mono HB1.out.size))
    clear hb2 hw2 HM1 HB1
    go_wp2_with fail
    refine (HD2.out _ (HB.out.below HB2.out)).mono ?_
    rintro e w3 ⟨t3, rfl, hm3, hb3⟩
    have HM3 := Lib.hid hm3
    have HB3 := Lib.hid hb3
    clear hm3 hb3
    go_upto_region 5 with ((with_reducible refine wpStoreAt 5 ?_); refine wpList_store_row rfl 42 _ _ rfl w3.heap.size (recA d t3) rfl rfl 42 (recA RecD.zero RS.none) (heap_alloc_last _ _) (sizeR _ (recA_size HWD.out _)) (by rw [recA_size HWD.out]; rfl) (recA_one _ _) ?_)
    try simp only [Act.put, List.setIfInBounds_toArray, List.set_cons_zero, List.set_cons_succ]
    obtain ⟨w4, hw4⟩ : ∃ w4, w4 = (w3.alloc (.cells (recA RecD.zero RS.none) 42)).setRow w3.heap.size (recA d t3) := ⟨_, rfl⟩
    rw [← hw4]
    have HR4 : Hid (w4.heap[w3.heap.size]? = some (.cells (recA d t3) 42 (0, 0))) := by rw [hw4]; exact setRow_heap _ _ _ _ _ _ (heap_alloc_last _ _)
    have hb4 : Below w3.heap.size w3 w4 := by rw [hw4]; exact below_setRow (Below.allocs _ _) (Nat.le_refl _) _
    have hb24 : Below w2.heap.size w2 w4 := HB3.out.trans (hb4.mono HB3.out.size)
    have HR24 := Lib.hid (Below.keepOld hb24 HR2.out)
    have HM4 := Lib.hid (HM3.out.below hb4)
    have HM24 := Lib.hid (HM2.out.below hb24)
    have HB4 := Lib.hid (HB2.out.trans (hb24.mono HB2.out.size))
    clear hb24 hb4 hw4 HM3 HB3 HM2 HB2 HR2
    go_wp2_with (first
      | refine wpList_load_row rfl 42 _ rfl w1.heap.size rfl 42 (recA d t1) (0, 0) _ HR24.out Tryd.underlying42 rfl (sizeR _ (recA_size HWD.out _)) ?_
      | refine wpList_load_row rfl 42 _ rfl w3.heap.size rfl 42 (recA d t3) (0, 0) _ HR4.out Tryd.underlying42 rfl (sizeR _ (recA_size HWD.out _)) ?_)
    refine (rsame_any d d t1 t3 _ HM24.out HM4.out).mono ?_
    rintro e w5 ⟨rfl, hb5⟩
    rw [same_self]
    have HB5 := Lib.hid (HB4.out.trans (hb5.mono HB4.out.size))
    have hr5 := Below.keepOld hb5 HR24.out
    have hm5 := HM24.out.below hb5
    clear HR24 HR4 HM24 HM4 HB4 hb5
    have HR24 := Lib.hid hr5
    have HM24 := Lib.hid hm5
    clear hr5 hm5
    go_wp2_with (first
      | refine wpList_load_row rfl 42 _ rfl w1.heap.size rfl 42 (recA d t1) (0, 0) _ HR24.out Tryd.underlying42 rfl (sizeR _ (recA_size HWD.out _)) ?_
      | refine Rdr.wpList_build rfl 42 _ rfl [] rfl _ build_r0 ?_)
    refine (rsame_any d RecD.zero t1 RS.none _ HM24.out (zero_at _)).mono ?_
    rintro e w6 ⟨rfl, hb6⟩
    rw [HD0.out, same_self]
    have HB2 := Lib.hid (HB5.out.trans (hb6.mono HB5.out.size))
    clear hb6
    have HE2 := Lib.hid (HE.out.below HB2.out HE.out.lt)
    skip
    go_wp2_with fail
    refine (alive17_any _ HE2.out).mono ?_
    rintro e w9 ⟨rfl, hb9⟩
    have HB9 := Lib.hid (HB2.out.trans (hb9.mono HB2.out.size))
    clear hb9
    go_wp2_with fail
    go_ret
    exact ⟨rfl, HB9.out⟩
end Go.Proofs.YtdaigkcbmdcbcaaDoor.Rec
