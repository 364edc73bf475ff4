/- BLOCKS: the reference's Decode. Conditions: at most 2^40 bytes. -/
import Derived.Test.YtdaigkcbmdcbcaaDoorBlkR1
import Derived.Test.YtdaigkcbmdcbcaaDoorBlkD
import Derived.Test.YtdaigkcbmdcbcaaDoorEager2
namespace Go.Proofs.YtdaigkcbmdcbcaaDoor.Blk
open Go.RowKit Go.Mir Go.Mir.Parts Wr Cod

set_option maxRecDepth 100000 in
theorem rid_any (p : Option Addr) (n c : Nat) (l : List UInt8) (i : Nat) (w : World) (hB : Bs w p n c l) (hi : i + 32 ≤ n) (hn : n ≤ 1099511627776) :
    Calls Tryd.prog 41 #[.slice p n c, .int .i64 (i : Int)] w fun e w' => e = .returned (.agg (idA ((l.drop i).take 32))) ∧ Below w.heap.size w w' := by
  have HB := Lib.hid hB
  have hle := hB.le
  have hmax := hB.max
  have HN : Hid (l.length = n) := hB.length
  have HL : Hid (((l.drop i).take 32).length = 32) := by show _ = _; rw [List.length_take, List.length_drop, HN.out]; omega
  obtain ⟨b, o, rfl⟩ := hB.addr (by omega) (by omega)
  have hz := zeroI
  clear hB
  go_enter Tryd.func41, Tryd.ntmps41
  go_wp2_with fail
  have H2 := Lib.hid (two_allocs w (.cells (idA zeros) 23) (.cells (idA zeros) 23))
  generalize (w.alloc (.cells (idA zeros) 23)).alloc (.cells (idA zeros) 23) = w3 at *
  go_loopw [6] (fun j wr => ∃ (k : Nat) (M : Array Value), k ≤ 32 ∧ j = .int .i64 k ∧ M.toList = bytesV (partN 32 ((l.drop i).take 32) k) ∧ M.size = 32 ∧ wr.heap[w.heap.size]? = some (.cells (idA zeros) 23 (0, 0)) ∧ wr.heap[w.heap.size + 1]? = some (.cells M 23 (0, 0)) ∧ Below w.heap.size w wr) (fun j _ => 32 - (intOf j).toNat)
  case atStart => exact ⟨0, idA zeros, by omega, rfl, by rw [idA_toList]; rfl, rfl, H2.out.1, H2.out.2.1, H2.out.2.2.2⟩
  case round =>
    obtain ⟨k, M, hk, rfl, hM, hMs, hr0, hr1, hbw⟩ := hrel
    have HM := Lib.hid hM
    have HMS := Lib.hid hMs
    have HR0 := Lib.hid hr0
    have HR1 := Lib.hid hr1
    have HBW := Lib.hid hbw
    by_cases hlt : k < 32
    · have hkx : k < ((l.drop i).take 32).length := by rw [HL.out]; omega
      have hik : i + k < l.length := by rw [HN.out]; omega
      have hc := Bs.byte (HB.out.below hbw) hik
      have hge : l[i + k]'hik = ((l.drop i).take 32)[k]'hkx := by simp
      rw [hge] at hc
      obtain ⟨u, hu⟩ : ∃ u, wr.cell? ⟨w.heap.size + 1, k, none⟩ = some u := ⟨_, (cell_of_row _ _ _ _ _ _ hr1).trans (Array.getElem?_eq_getElem (by omega))⟩
      have hf : wr.frozen? ⟨w.heap.size + 1, k, none⟩ = false := frozen_of_row _ _ _ _ _ hr1
      have hd : decide ((k : Int) < 32) = true := decide_eq_true (by omega)
      have hiw : IntKind.i64.wrap ((i : Int) + (k : Int)) = ((i + k : Nat) : Int) := by rw [IntWalk.i64_in _ (by omega)]; omega
      have hin : i + k < n := by omega
      obtain ⟨ik, hik2⟩ : ∃ ik, i + k = ik := ⟨_, rfl⟩
      rw [hik2] at hc hiw hin
      have HKX := Lib.hid hkx
      have HP := Lib.hid (fun (h : M.toList = bytesV (partN 32 ((l.drop i).take 32) k)) => partN_row h hkx hlt)
      generalize ((l.drop i).take 32)[k]'hkx = y at *
      clear hM hMs hr0 hr1 hbw hik2 hge hik hkx
      go_wp2_with fail
      go_roundw
      case rel =>
        have ht := (Turns.refl (fun i => i = w.heap.size + 1) wr).setCell (p := ⟨w.heap.size + 1, k, none⟩) (fun _ => rfl) (.int .u8 (y.toNat : Int))
        exact ⟨k + 1, _, by omega, by go_num, HP.out HM.out, by rw [Array.size_setIfInBounds]; exact HMS.out, ht.keep HR0.out (by omega), heap_setCell_same _ _ _ _ _ _ HR1.out, HBW.out.setCell (Nat.le_add_right _ 1) _⟩
      case measure => simp [intOf]; omega
    · obtain rfl : k = 32 := by omega
      have HME : Hid (M = idA ((l.drop i).take 32)) := by
        show _ = _
        rw [← Array.toArray_toList (xs := M), hM]
        unfold idA partN
        rw [List.take_of_length_le (Nat.le_of_eq HL.out)]
        simp
      rw [HME.out] at hr1
      have HR3 := Lib.hid hr1
      clear hM hMs hr0 hr1 hbw
      go_wp2_with (first
        | refine wpList_load_row rfl 23 _ rfl (w.heap.size + 1) rfl 23 (idA ((l.drop i).take 32)) (0, 0) _ HR3.out Tryd.underlying23 rfl (infoI _ (by rw [idA_size, HL.out])) ?_
        | refine wpList_store_row rfl 23 _ _ rfl w.heap.size (idA ((l.drop i).take 32)) rfl rfl 23 (idA zeros) HR0.out (infoI _ (by rw [idA_size, HL.out])) (by rw [idA_size, idA_size, HL.out]; rfl) (idA_one _) ?_)
      have HS := Lib.hid (setRow_heap _ _ _ (idA ((l.drop i).take 32)) _ _ HR0.out)
      refine bodyPost_ret (results_cell_row rfl _ _ _ _ _ _ _ rfl HS.out Tryd.underlying23 rfl (infoI _ (by rw [idA_size, HL.out]))) rfl ?_
      exact ⟨rfl, below_setRow HBW.out (Nat.le_refl _) _⟩
/-- what lies there: the answer's row, a zero block's -/
structure QB (w x : World) : Prop where
  r0 : x.heap[w.heap.size]? = some (.cells (blkA zeros zeros none 0 0) 26 (0, 0))
  r1 : x.heap[w.heap.size + 1]? = some (.cells (blkA zeros zeros none 0 0) 26 (0, 0))
  low : Below w.heap.size w x
  size : w.heap.size + 2 ≤ x.heap.size
theorem QB.below {w x y : World} (h : QB w x) (hb : Below x.heap.size x y) : QB w y :=
  ⟨Below.keepOld hb h.r0, Below.keepOld hb h.r1, h.low.trans (hb.mono h.low.size), Nat.le_trans h.size hb.size⟩
/-- the block so far: ids of the call's own -/
structure LB (w0 : World) (bb : Nat) (h p : List UInt8) (ids : List (List UInt8)) (q : Option Addr) (n c : Nat) (x : World) : Prop where
  row : x.heap[bb]? = some (.cells (blkA h p q n c) 26 (0, 0))
  own : x.ownsRow (bb + 1) 23 32 (.slice q n c) n (ids.flatMap bytesV)
  low : Below bb w0 x
  len : h.length = 32 ∧ p.length = 32
  each : ∀ y ∈ ids, y.length = 32
  cnt : ids.length = n
theorem LB.cells {w0 x : World} {bb : Nat} {h p : List UInt8} {ids : List (List UInt8)} {q : Option Addr} {n c : Nat} (H : LB w0 bb h p ids q n c x) : x.cell? ⟨bb, 64, none⟩ = some (.slice q n c) ∧ x.frozen? ⟨bb, 64, none⟩ = false := by
  refine ⟨?_, frozen_of_row _ _ 64 _ _ H.row⟩
  have := range_row H.row (bytesV h ++ bytesV p) [Value.slice q n c] [] (by rw [blkA_toList]; simp)
  rw [List.length_append, bytesV_length, bytesV_length, H.len.1, H.len.2] at this
  exact this 0 _ rfl
theorem LB.blk {w0 x : World} {bb : Nat} {h p : List UInt8} {ids : List (List UInt8)} {q : Option Addr} {n c : Nat} (H : LB w0 bb h p ids q n c x) : BlkAt x (blkA h p q n c) ⟨h, p, ids⟩ q n c := by
  obtain ⟨p', c', e9, hs⟩ := own_sl H.own
  cases e9
  exact ⟨rfl, H.len.1, H.len.2, hs, H.each, H.cnt⟩
theorem cn_at {l : List UInt8} (h : 64 < l.length) : cn l = (l[64]'h).toNat := by
  have h1 : (l.drop 64).take 1 = [l[64]'h] := by rw [List.drop_eq_getElem_cons h]; rfl
  unfold cn
  rw [h1, beN_one]
theorem chunks_snoc (L : List UInt8) (k : Nat) : chunks L (k + 1) = chunks L k ++ [(L.drop (32 * k)).take 32] := by
  unfold chunks
  rw [List.range_succ, List.map_append]; rfl
set_option maxRecDepth 100000 in
set_option maxHeartbeats 6400000 in
theorem rdecode_any (p0 : Option Addr) (n0 c0 : Nat) (l : List UInt8) (w : World) (hB : Bs w p0 n0 c0 l) (hn : n0 ≤ 1099511627776) :
    Calls Tryd.prog 16 #[.slice p0 n0 c0] w (DecP (decB l).1 (decB l).2 w) := by
  have hz := zeroB
  have HB := Lib.hid hB
  have hle := hB.le
  have hmax := hB.max
  have HN : Hid (l.length = n0) := hB.length
  obtain ⟨Q, hQ⟩ : ∃ Q, decB l = Q := ⟨_, rfl⟩
  have HBD : Hid (∀ ev : Int, Q = (BlkD.zero, ev) → ∀ w', Below w.heap.size w w' → DecP Q.1 Q.2 w (.returned (.tuple #[.agg (blkA zeros zeros none 0 0), .int .i64 ev])) w') := fun ev he w' hb => by
    rw [he]
    exact ⟨_, none, 0, 0, rfl, ⟨rfl, rfl, rfl, Is.nil _ _⟩, hb⟩
  have hdec := hQ
  unfold decB at hdec
  rw [hQ]
  clear hQ
  by_cases h65 : n0 < 65
  · have hd : decide ((n0 : Int) < (65 : Int)) = true := decide_eq_true (by omega)
    rw [if_pos (by rw [HN.out]; exact h65)] at hdec
    have HBAD := Lib.hid (HBD.out 2 hdec.symm)
    clear HBD h65 hdec hB
    go_enter Tryd.func16, Tryd.ntmps16
    go_upto_region 1 with fail
    have hq0 : (w.alloc (.cells (blkA zeros zeros none 0 0) 26)).heap[w.heap.size]? = some (.cells (blkA zeros zeros none 0 0) 26 (0, 0)) ∧ (w.alloc (.cells (blkA zeros zeros none 0 0) 26)).heap.size = w.heap.size + 1 ∧ Below w.heap.size w (w.alloc (.cells (blkA zeros zeros none 0 0) 26)) := ⟨heap_alloc_last _ _, by simp, Below.allocs _ _⟩
    generalize w.alloc (.cells (blkA zeros zeros none 0 0) 26) = w1 at *
    have HQ0 := Lib.hid hq0
    clear hq0
    go_upto_region 2 with (first
      | refine Rdr.wpList_build rfl 26 _ rfl [] rfl _ build_b0 ?_
      | refine wpList_store_row rfl 26 _ _ rfl w1.heap.size (blkA zeros zeros none 0 0) rfl rfl 26 (blkA zeros zeros none 0 0) (heap_alloc_last _ _) (infoBlk _ rfl) rfl (blk_one _ _ _ _ _) ?_)
    try simp only [Act.put, List.setIfInBounds_toArray, List.set_cons_zero, List.set_cons_succ]
    have hq1 : ((w1.alloc (.cells (blkA zeros zeros none 0 0) 26)).setRow w1.heap.size (blkA zeros zeros none 0 0)).heap[w1.heap.size]? = some (.cells (blkA zeros zeros none 0 0) 26 (0, 0)) ∧ Below w1.heap.size w1 ((w1.alloc (.cells (blkA zeros zeros none 0 0) 26)).setRow w1.heap.size (blkA zeros zeros none 0 0)) ∧ w.heap.size + 2 ≤ ((w1.alloc (.cells (blkA zeros zeros none 0 0) 26)).setRow w1.heap.size (blkA zeros zeros none 0 0)).heap.size := ⟨setRow_heap _ _ _ _ _ _ (heap_alloc_last _ _), below_setRow (Below.allocs _ _) (Nat.le_refl _) _, by have := HQ0.out.2.1; simp [World.setRow]; omega⟩
    generalize (w1.alloc (.cells (blkA zeros zeros none 0 0) 26)).setRow w1.heap.size (blkA zeros zeros none 0 0) = w2 at *
    have hs1 := HQ0.out.2.1
    rw [hs1] at hq1 ⊢
    have HQ : Hid (QB w w2) := ⟨Below.keepBlock hq1.2.1 HQ0.out.1 (by omega), hq1.1, HQ0.out.2.2.trans (hq1.2.1.mono (by omega)), hq1.2.2⟩
    clear hs1 hq1 HQ0
    go_wp2_with (first
      | refine wpList_load_row rfl 26 _ rfl (w.heap.size + 1) rfl 26 (blkA zeros zeros none 0 0) (0, 0) _ HQ.out.r1 Tryd.underlying26 rfl (infoBlk _ rfl) ?_
      | refine wpList_store_row rfl 26 _ _ rfl w.heap.size (blkA zeros zeros none 0 0) rfl rfl 26 (blkA zeros zeros none 0 0) HQ.out.r0 (infoBlk _ rfl) rfl (blk_one _ _ _ _ _) ?_)
    have HS := Lib.hid (setRow_heap _ _ _ (blkA zeros zeros none 0 0) _ _ HQ.out.r0)
    refine bodyPost_ret (results_cell_tmp2 rfl _ _ _ _ _ _ _ rfl HS.out Tryd.underlying26 rfl (infoBlk _ rfl)) rfl ?_
    exact HBAD.out _ (below_setRow HQ.out.low (Nat.le_refl _) _)
  have hd : decide ((n0 : Int) < (65 : Int)) = false := decide_eq_false (by omega)
  rw [if_neg (by rw [HN.out]; exact h65)] at hdec
  obtain ⟨b, o, rfl⟩ := hB.addr (by omega) (by omega)
  clear hB
  have h64 : 64 < l.length := by rw [HN.out]; omega
  have hcn := cn_at h64
  have hNB := (l[64]'h64).toNat_lt
  obtain ⟨N, hNV⟩ : ∃ N, (l[64]'h64).toNat = N := ⟨_, rfl⟩
  have HNV : Hid (∀ w', Below w.heap.size w w' → w'.cell? ⟨b, o + 64, none⟩ = some (.int .u8 (N : Int))) := fun w' hb => by rw [← hNV]; exact Bs.byte (HB.out.below hb) h64
  rw [hNV] at hcn hNB
  clear hNV
  rw [hcn] at hdec
  have hw0 : IntKind.i64.wrap (N : Int) = (N : Int) := IntWalk.i64_in _ (by omega)
  by_cases hov : 32 < N
  · have e1 : decide ((32 : Int) < (N : Int)) = true := decide_eq_true (by omega)
    rw [if_pos hov] at hdec
    have HBAD := Lib.hid (HBD.out 4 hdec.symm)
    clear HBD hdec hov hcn h64
    go_enter Tryd.func16, Tryd.ntmps16
    go_upto_region 1 with fail
    have hq0 : (w.alloc (.cells (blkA zeros zeros none 0 0) 26)).heap[w.heap.size]? = some (.cells (blkA zeros zeros none 0 0) 26 (0, 0)) ∧ (w.alloc (.cells (blkA zeros zeros none 0 0) 26)).heap.size = w.heap.size + 1 ∧ Below w.heap.size w (w.alloc (.cells (blkA zeros zeros none 0 0) 26)) := ⟨heap_alloc_last _ _, by simp, Below.allocs _ _⟩
    generalize w.alloc (.cells (blkA zeros zeros none 0 0) 26) = w1 at *
    have HQ0 := Lib.hid hq0
    clear hq0
    go_upto_region 2 with (first
      | refine Rdr.wpList_build rfl 26 _ rfl [] rfl _ build_b0 ?_
      | refine wpList_store_row rfl 26 _ _ rfl w1.heap.size (blkA zeros zeros none 0 0) rfl rfl 26 (blkA zeros zeros none 0 0) (heap_alloc_last _ _) (infoBlk _ rfl) rfl (blk_one _ _ _ _ _) ?_)
    try simp only [Act.put, List.setIfInBounds_toArray, List.set_cons_zero, List.set_cons_succ]
    have hq1 : ((w1.alloc (.cells (blkA zeros zeros none 0 0) 26)).setRow w1.heap.size (blkA zeros zeros none 0 0)).heap[w1.heap.size]? = some (.cells (blkA zeros zeros none 0 0) 26 (0, 0)) ∧ Below w1.heap.size w1 ((w1.alloc (.cells (blkA zeros zeros none 0 0) 26)).setRow w1.heap.size (blkA zeros zeros none 0 0)) ∧ w.heap.size + 2 ≤ ((w1.alloc (.cells (blkA zeros zeros none 0 0) 26)).setRow w1.heap.size (blkA zeros zeros none 0 0)).heap.size := ⟨setRow_heap _ _ _ _ _ _ (heap_alloc_last _ _), below_setRow (Below.allocs _ _) (Nat.le_refl _) _, by have := HQ0.out.2.1; simp [World.setRow]; omega⟩
    generalize (w1.alloc (.cells (blkA zeros zeros none 0 0) 26)).setRow w1.heap.size (blkA zeros zeros none 0 0) = w2 at *
    have hs1 := HQ0.out.2.1
    rw [hs1] at hq1 ⊢
    have HQ : Hid (QB w w2) := ⟨Below.keepBlock hq1.2.1 HQ0.out.1 (by omega), hq1.1, HQ0.out.2.2.trans (hq1.2.1.mono (by omega)), hq1.2.2⟩
    clear hs1 hq1 HQ0
    have hcb := HNV.out _ HQ.out.low
    go_upto_region 5 with fail
    clear hcb
    go_wp2_with (first
      | refine wpList_load_row rfl 26 _ rfl (w.heap.size + 1) rfl 26 (blkA zeros zeros none 0 0) (0, 0) _ HQ.out.r1 Tryd.underlying26 rfl (infoBlk _ rfl) ?_
      | refine wpList_store_row rfl 26 _ _ rfl w.heap.size (blkA zeros zeros none 0 0) rfl rfl 26 (blkA zeros zeros none 0 0) HQ.out.r0 (infoBlk _ rfl) rfl (blk_one _ _ _ _ _) ?_)
    have HS := Lib.hid (setRow_heap _ _ _ (blkA zeros zeros none 0 0) _ _ HQ.out.r0)
    refine bodyPost_ret (results_cell_tmp2 rfl _ _ _ _ _ _ _ rfl HS.out Tryd.underlying26 rfl (infoBlk _ rfl)) rfl ?_
    exact HBAD.out _ (below_setRow HQ.out.low (Nat.le_refl _) _)
  have e1 : decide ((32 : Int) < (N : Int)) = false := decide_eq_false (by omega)
  rw [if_neg hov, HN.out] at hdec
  obtain ⟨K, hK⟩ : ∃ K, 32 * N = K := ⟨_, rfl⟩
  obtain ⟨T, hT⟩ : ∃ T, 65 + K = T := ⟨_, rfl⟩
  have hw1 : IntKind.i64.wrap (32 * (N : Int)) = (K : Int) := by rw [IntWalk.i64_in _ (by omega)]; omega
  have hw2 : IntKind.i64.wrap (65 + (K : Int)) = (T : Int) := by rw [IntWalk.i64_in _ (by omega)]; omega
  rw [hK, hT] at hdec
  have HKN : Hid (32 * N = K) := hK
  have HTK : Hid (65 + K = T) := hT
  clear hK hT
  by_cases hs : n0 < T
  · have e2 : decide ((n0 : Int) < (T : Int)) = true := decide_eq_true (by omega)
    rw [if_pos hs] at hdec
    have HBAD := Lib.hid (HBD.out 2 hdec.symm)
    clear HBD hdec hcn h64
    have e2b : decide (n0 < T) = true := decide_eq_true hs
    clear hs
    go_enter Tryd.func16, Tryd.ntmps16
    go_upto_region 1 with fail
    have hq0 : (w.alloc (.cells (blkA zeros zeros none 0 0) 26)).heap[w.heap.size]? = some (.cells (blkA zeros zeros none 0 0) 26 (0, 0)) ∧ (w.alloc (.cells (blkA zeros zeros none 0 0) 26)).heap.size = w.heap.size + 1 ∧ Below w.heap.size w (w.alloc (.cells (blkA zeros zeros none 0 0) 26)) := ⟨heap_alloc_last _ _, by simp, Below.allocs _ _⟩
    generalize w.alloc (.cells (blkA zeros zeros none 0 0) 26) = w1 at *
    have HQ0 := Lib.hid hq0
    clear hq0
    go_upto_region 2 with (first
      | refine Rdr.wpList_build rfl 26 _ rfl [] rfl _ build_b0 ?_
      | refine wpList_store_row rfl 26 _ _ rfl w1.heap.size (blkA zeros zeros none 0 0) rfl rfl 26 (blkA zeros zeros none 0 0) (heap_alloc_last _ _) (infoBlk _ rfl) rfl (blk_one _ _ _ _ _) ?_)
    try simp only [Act.put, List.setIfInBounds_toArray, List.set_cons_zero, List.set_cons_succ]
    have hq1 : ((w1.alloc (.cells (blkA zeros zeros none 0 0) 26)).setRow w1.heap.size (blkA zeros zeros none 0 0)).heap[w1.heap.size]? = some (.cells (blkA zeros zeros none 0 0) 26 (0, 0)) ∧ Below w1.heap.size w1 ((w1.alloc (.cells (blkA zeros zeros none 0 0) 26)).setRow w1.heap.size (blkA zeros zeros none 0 0)) ∧ w.heap.size + 2 ≤ ((w1.alloc (.cells (blkA zeros zeros none 0 0) 26)).setRow w1.heap.size (blkA zeros zeros none 0 0)).heap.size := ⟨setRow_heap _ _ _ _ _ _ (heap_alloc_last _ _), below_setRow (Below.allocs _ _) (Nat.le_refl _) _, by have := HQ0.out.2.1; simp [World.setRow]; omega⟩
    generalize (w1.alloc (.cells (blkA zeros zeros none 0 0) 26)).setRow w1.heap.size (blkA zeros zeros none 0 0) = w2 at *
    have hs1 := HQ0.out.2.1
    rw [hs1] at hq1 ⊢
    have HQ : Hid (QB w w2) := ⟨Below.keepBlock hq1.2.1 HQ0.out.1 (by omega), hq1.1, HQ0.out.2.2.trans (hq1.2.1.mono (by omega)), hq1.2.2⟩
    clear hs1 hq1 HQ0
    have hcb := HNV.out _ HQ.out.low
    go_upto_region 5 with fail
    clear hcb
    go_wp2_with (first
      | refine wpList_load_row rfl 26 _ rfl (w.heap.size + 1) rfl 26 (blkA zeros zeros none 0 0) (0, 0) _ HQ.out.r1 Tryd.underlying26 rfl (infoBlk _ rfl) ?_
      | refine wpList_store_row rfl 26 _ _ rfl w.heap.size (blkA zeros zeros none 0 0) rfl rfl 26 (blkA zeros zeros none 0 0) HQ.out.r0 (infoBlk _ rfl) rfl (blk_one _ _ _ _ _) ?_)
    have HS := Lib.hid (setRow_heap _ _ _ (blkA zeros zeros none 0 0) _ _ HQ.out.r0)
    refine bodyPost_ret (results_cell_tmp2 rfl _ _ _ _ _ _ _ rfl HS.out Tryd.underlying26 rfl (infoBlk _ rfl)) rfl ?_
    exact HBAD.out _ (below_setRow HQ.out.low (Nat.le_refl _) _)
  have e2 : decide ((n0 : Int) < (T : Int)) = false := decide_eq_false (by omega)
  have e2b : decide (n0 < T) = false := decide_eq_false hs
  rw [if_neg hs] at hdec
  by_cases hg : T < n0
  · have e3 : decide ((T : Int) < (n0 : Int)) = true := decide_eq_true (by omega)
    have e3b : decide (T < n0) = true := decide_eq_true hg
    rw [if_pos hg] at hdec
    have HBAD := Lib.hid (HBD.out 3 hdec.symm)
    clear HBD hdec hcn h64 hg hs
    go_enter Tryd.func16, Tryd.ntmps16
    go_upto_region 1 with fail
    have hq0 : (w.alloc (.cells (blkA zeros zeros none 0 0) 26)).heap[w.heap.size]? = some (.cells (blkA zeros zeros none 0 0) 26 (0, 0)) ∧ (w.alloc (.cells (blkA zeros zeros none 0 0) 26)).heap.size = w.heap.size + 1 ∧ Below w.heap.size w (w.alloc (.cells (blkA zeros zeros none 0 0) 26)) := ⟨heap_alloc_last _ _, by simp, Below.allocs _ _⟩
    generalize w.alloc (.cells (blkA zeros zeros none 0 0) 26) = w1 at *
    have HQ0 := Lib.hid hq0
    clear hq0
    go_upto_region 2 with (first
      | refine Rdr.wpList_build rfl 26 _ rfl [] rfl _ build_b0 ?_
      | refine wpList_store_row rfl 26 _ _ rfl w1.heap.size (blkA zeros zeros none 0 0) rfl rfl 26 (blkA zeros zeros none 0 0) (heap_alloc_last _ _) (infoBlk _ rfl) rfl (blk_one _ _ _ _ _) ?_)
    try simp only [Act.put, List.setIfInBounds_toArray, List.set_cons_zero, List.set_cons_succ]
    have hq1 : ((w1.alloc (.cells (blkA zeros zeros none 0 0) 26)).setRow w1.heap.size (blkA zeros zeros none 0 0)).heap[w1.heap.size]? = some (.cells (blkA zeros zeros none 0 0) 26 (0, 0)) ∧ Below w1.heap.size w1 ((w1.alloc (.cells (blkA zeros zeros none 0 0) 26)).setRow w1.heap.size (blkA zeros zeros none 0 0)) ∧ w.heap.size + 2 ≤ ((w1.alloc (.cells (blkA zeros zeros none 0 0) 26)).setRow w1.heap.size (blkA zeros zeros none 0 0)).heap.size := ⟨setRow_heap _ _ _ _ _ _ (heap_alloc_last _ _), below_setRow (Below.allocs _ _) (Nat.le_refl _) _, by have := HQ0.out.2.1; simp [World.setRow]; omega⟩
    generalize (w1.alloc (.cells (blkA zeros zeros none 0 0) 26)).setRow w1.heap.size (blkA zeros zeros none 0 0) = w2 at *
    have hs1 := HQ0.out.2.1
    rw [hs1] at hq1 ⊢
    have HQ : Hid (QB w w2) := ⟨Below.keepBlock hq1.2.1 HQ0.out.1 (by omega), hq1.1, HQ0.out.2.2.trans (hq1.2.1.mono (by omega)), hq1.2.2⟩
    clear hs1 hq1 HQ0
    have hcb := HNV.out _ HQ.out.low
    go_upto_region 5 with fail
    clear hcb
    go_wp2_with (first
      | refine wpList_load_row rfl 26 _ rfl (w.heap.size + 1) rfl 26 (blkA zeros zeros none 0 0) (0, 0) _ HQ.out.r1 Tryd.underlying26 rfl (infoBlk _ rfl) ?_
      | refine wpList_store_row rfl 26 _ _ rfl w.heap.size (blkA zeros zeros none 0 0) rfl rfl 26 (blkA zeros zeros none 0 0) HQ.out.r0 (infoBlk _ rfl) rfl (blk_one _ _ _ _ _) ?_)
    have HS := Lib.hid (setRow_heap _ _ _ (blkA zeros zeros none 0 0) _ _ HQ.out.r0)
    refine bodyPost_ret (results_cell_tmp2 rfl _ _ _ _ _ _ _ rfl HS.out Tryd.underlying26 rfl (infoBlk _ rfl)) rfl ?_
    exact HBAD.out _ (below_setRow HQ.out.low (Nat.le_refl _) _)
  have e3 : decide ((T : Int) < (n0 : Int)) = false := decide_eq_false (by omega)
  have e3b : decide (T < n0) = false := decide_eq_false hg
  rw [if_neg hg] at hdec
  have hTn : T = n0 := by omega
  have hN32 : N ≤ 32 := by omega
  have HTN : Hid (65 + 32 * N = n0) := by have h1 := HKN.out; have h2 := HTK.out; show _ = _; omega
  clear hg hs h64 hov hNB
  go_enter Tryd.func16, Tryd.ntmps16
  go_upto_region 1 with fail
  have hq0 : (w.alloc (.cells (blkA zeros zeros none 0 0) 26)).heap[w.heap.size]? = some (.cells (blkA zeros zeros none 0 0) 26 (0, 0)) ∧ (w.alloc (.cells (blkA zeros zeros none 0 0) 26)).heap.size = w.heap.size + 1 ∧ Below w.heap.size w (w.alloc (.cells (blkA zeros zeros none 0 0) 26)) := ⟨heap_alloc_last _ _, by simp, Below.allocs _ _⟩
  generalize w.alloc (.cells (blkA zeros zeros none 0 0) 26) = w1 at *
  have HQ0 := Lib.hid hq0
  clear hq0
  go_upto_region 2 with (first
    | refine Rdr.wpList_build rfl 26 _ rfl [] rfl _ build_b0 ?_
    | refine wpList_store_row rfl 26 _ _ rfl w1.heap.size (blkA zeros zeros none 0 0) rfl rfl 26 (blkA zeros zeros none 0 0) (heap_alloc_last _ _) (infoBlk _ rfl) rfl (blk_one _ _ _ _ _) ?_)
  try simp only [Act.put, List.setIfInBounds_toArray, List.set_cons_zero, List.set_cons_succ]
  have hq1 : ((w1.alloc (.cells (blkA zeros zeros none 0 0) 26)).setRow w1.heap.size (blkA zeros zeros none 0 0)).heap[w1.heap.size]? = some (.cells (blkA zeros zeros none 0 0) 26 (0, 0)) ∧ Below w1.heap.size w1 ((w1.alloc (.cells (blkA zeros zeros none 0 0) 26)).setRow w1.heap.size (blkA zeros zeros none 0 0)) ∧ w.heap.size + 2 ≤ ((w1.alloc (.cells (blkA zeros zeros none 0 0) 26)).setRow w1.heap.size (blkA zeros zeros none 0 0)).heap.size := ⟨setRow_heap _ _ _ _ _ _ (heap_alloc_last _ _), below_setRow (Below.allocs _ _) (Nat.le_refl _) _, by have := HQ0.out.2.1; simp [World.setRow]; omega⟩
  generalize (w1.alloc (.cells (blkA zeros zeros none 0 0) 26)).setRow w1.heap.size (blkA zeros zeros none 0 0) = w2 at *
  have hs1 := HQ0.out.2.1
  rw [hs1] at hq1 ⊢
  have HQ : Hid (QB w w2) := ⟨Below.keepBlock hq1.2.1 HQ0.out.1 (by omega), hq1.1, HQ0.out.2.2.trans (hq1.2.1.mono (by omega)), hq1.2.2⟩
  clear hs1 hq1 HQ0
  have hcb := HNV.out _ HQ.out.low
  go_upto_region 5 with fail
  clear hcb
  have HQG : Hid (getB l = ⟨(l.drop 0).take 32, (l.drop 32).take 32, chunks (l.drop 65) N⟩) := by show _ = _; unfold getB; rw [hcn]; rfl
  have HHL : Hid (((l.drop 0).take 32).length = 32 ∧ ((l.drop 32).take 32).length = 32) := ⟨by rw [List.length_take, List.length_drop, HN.out]; omega, by rw [List.length_take, List.length_drop, HN.out]; omega⟩
  have HDEC := Lib.hid hdec
  clear hdec hcn hTn
  have HI1 : Hid (∀ x, Below w.heap.size w x → Calls Tryd.prog 41 #[.slice (some ⟨b, o, none⟩) n0 c0, .int .i64 0] x fun e w' => e = .returned (.agg (idA ((l.drop 0).take 32))) ∧ Below x.heap.size x w') := fun x hx => rid_any (some ⟨b, o, none⟩) n0 c0 l 0 _ (HB.out.below hx) (by omega) hn
  have HI2 : Hid (∀ x, Below w.heap.size w x → Calls Tryd.prog 41 #[.slice (some ⟨b, o, none⟩) n0 c0, .int .i64 32] x fun e w' => e = .returned (.agg (idA ((l.drop 32).take 32))) ∧ Below x.heap.size x w') := fun x hx => rid_any (some ⟨b, o, none⟩) n0 c0 l 32 _ (HB.out.below hx) (by omega) hn
  generalize (l.drop 0).take 32 = h1 at *
  generalize (l.drop 32).take 32 = h2 at *
  go_wp2_with fail
  refine (HI1.out _ HQ.out.low).mono ?_
  rintro e w3 ⟨rfl, hb3⟩
  have hq3 := HQ.out.below hb3
  clear HQ hb3
  have HQ := Lib.hid hq3
  clear hq3
  go_wp2_with fail
  refine (HI2.out _ HQ.out.low).mono ?_
  rintro e w4 ⟨rfl, hb4⟩
  have hq4 := HQ.out.below hb4
  clear HQ hb4
  have HQ := Lib.hid hq4
  clear hq4
  go_upto_region 12 with (first
    | ((with_reducible refine wpAt 38 ?_); refine Rdr.wpList_build rfl 26 _ rfl [(0, .agg (idA h1)), (1, .agg (idA h2))] rfl _ (build_blk _ _ HHL.out.1 HHL.out.2) ?_)
    | ((with_reducible refine wpStoreAt 6 ?_); refine wpList_store_row rfl 26 _ _ rfl w4.heap.size (blkA h1 h2 none 0 0) rfl rfl 26 (blkA zeros zeros none 0 0) (heap_alloc_last _ _) (infoBlk _ (blk_size HHL.out.1 HHL.out.2 _ _ _)) (by rw [blk_size HHL.out.1 HHL.out.2]; rfl) (blk_one _ _ _ _ _) ?_))
  try simp only [Act.put, List.setIfInBounds_toArray, List.set_cons_zero, List.set_cons_succ]
  have HLB : Hid (LB w4 w4.heap.size h1 h2 [] none 0 0 ((w4.alloc (.cells (blkA zeros zeros none 0 0) 26)).setRow w4.heap.size (blkA h1 h2 none 0 0))) :=
    ⟨setRow_heap _ _ _ _ _ _ (heap_alloc_last _ _), ⟨rfl, .inl ⟨rfl, rfl⟩⟩, below_setRow (Below.allocs _ _) (Nat.le_refl _) _, HHL.out, fun y hy => (nomatch hy), rfl⟩
  generalize (w4.alloc (.cells (blkA zeros zeros none 0 0) 26)).setRow w4.heap.size (blkA h1 h2 none 0 0) = w5 at *
  obtain ⟨bb, hbb⟩ : ∃ bb, w4.heap.size = bb := ⟨_, rfl⟩
  rw [hbb] at HLB ⊢
  have HBB : Hid (w4.heap.size = bb) := hbb
  clear hbb
  go_wp2_with fail
  go_loopw [7] (fun j wr => ∃ (k : Nat) (q : Option Addr) (c : Nat), k ≤ N ∧ j = .int .i64 k ∧ LB w4 bb h1 h2 (chunks (l.drop 65) k) q k c wr) (fun j _ => N - (intOf j).toNat)
  case atStart => exact ⟨0, none, 0, by omega, rfl, HLB.out⟩
  case round =>
    clear HLB
    obtain ⟨k, q, c, hk, rfl, hlb⟩ := hrel
    have HLB := Lib.hid hlb
    obtain ⟨c64, f64⟩ := hlb.cells
    clear hlb
    by_cases hlt : k < N
    · have hdk : decide ((k : Int) < (N : Int)) = true := decide_eq_true (by omega)
      have hdk2 : decide (k < N) = true := decide_eq_true hlt
      have hm1 : IntKind.i64.wrap (32 * (k : Int)) = ((32 * k : Nat) : Int) := by rw [IntWalk.i64_in _ (by omega)]; omega
      have hm2 : IntKind.i64.wrap (65 + ((32 * k : Nat) : Int)) = ((65 + 32 * k : Nat) : Int) := by rw [IntWalk.i64_in _ (by omega)]; omega
      have HNO : Hid (∀ i, (Value.slice q k c).ownBlock = some i → bb + 1 ≤ i ∧ i < wr.heap.size) := fun i hi => HLB.out.own.lt i hi
      have hk2 : Hid (∀ w', Turns (fun i => (Value.slice q k c).ownBlock = some i) wr w' → w'.cell? ⟨bb, 64, none⟩ = some (.slice q k c)) := fun w' ht => ht.cell c64 (fun hi => by have h9 : bb + 1 ≤ bb := (HNO.out bb hi).1; omega)
      have HBW : Hid (Below w.heap.size w wr) := HQ.out.low.trans (HLB.out.low.mono (by have := HQ.out.size; have := HBB.out; omega))
      have HRI : Hid (∀ x, Below wr.heap.size wr x → Calls Tryd.prog 41 #[.slice (some ⟨b, o, none⟩) n0 c0, .int .i64 ((65 + 32 * k : Nat) : Int)] x fun e w' => e = .returned (.agg (idA ((l.drop (65 + 32 * k)).take 32))) ∧ Below x.heap.size x w') := fun x hx => rid_any (some ⟨b, o, none⟩) n0 c0 l (65 + 32 * k) x (HB.out.below (HBW.out.trans (hx.mono HBW.out.size))) (by have := HTN.out; omega) hn
      have HCS : Hid (chunks (l.drop 65) (k + 1) = chunks (l.drop 65) k ++ [(l.drop (65 + 32 * k)).take 32]) := by show _ = _; rw [chunks_snoc, List.drop_drop]
      have HYL : Hid (((l.drop (65 + 32 * k)).take 32).length = 32) := by show _ = _; rw [List.length_take, List.length_drop, HN.out]; have := HTN.out; omega
      generalize (l.drop (65 + 32 * k)).take 32 = y at *
      generalize ((65 + 32 * k : Nat) : Int) = P at *
      generalize ((32 * k : Nat) : Int) = P2 at *
      go_wp2_with fail
      refine wp_region_eager_t (Turns (fun i => (Value.slice q k c).ownBlock = some i) wr) [0, 1, 2, 3, 4, 5, 9] [(0, true), (1, true), (2, true), (3, true), (4, true), (5, true), (6, false), (7, false), (8, false), (9, true)] [10] (by kernel_rfl) (by kernel_rfl) ?_ (eagerTOpen rfl ?_)
      · exact (Turns.refl _ _).drew
      have hy0 : Turns (fun i => (Value.slice q k c).ownBlock = some i) wr wr.drew := (Turns.refl _ _).drew
      repeat (first
        | (first | (apply wpEagerT_take; (· rfl); (· (intro w' hb'; go_simp; try with_reducible rfl)); (try simp only [Act.put, List.setIfInBounds_toArray, List.set_cons_zero, List.set_cons_succ]); (try refine eagerTOpen rfl ?_)) | (refine wpEagerT_skip (by rfl) ?_; (try simp only [Act.put, List.setIfInBounds_toArray, List.set_cons_zero, List.set_cons_succ]); (try refine eagerTOpen rfl ?_)))
        | (apply wpEagerT_take; (· rfl); (· (intro w' hb'; have hk' := (hk2.out) w' hb'; go_split_ands; go_simp; try with_reducible rfl)); (try simp only [Act.put, List.setIfInBounds_toArray, List.set_cons_zero, List.set_cons_succ]); (try refine eagerTOpen rfl ?_)))
      (refine wpEagerT_op (by rfl) (fun K hK => ?_); go_simp; (refine (HRI.out _ (below_drew1 _ _)).mono ?_; rintro e y2 ⟨rfl, hb⟩; have HBY := Lib.hid ((below_drew1 wr.heap.size wr).trans hb); have hy1 : Turns (fun i => (Value.slice q k c).ownBlock = some i) wr y2 := hy0.trans (Turns.of_below (S := fun _ => False) hb) (fun _ _ h => h.elim); clear hb); refine Shut.out hK _ _ (by assumption) ?_; clear hK K; (try simp only [Act.put, List.setIfInBounds_toArray, List.set_cons_zero, List.set_cons_succ]); (try refine eagerTOpen rfl ?_))
      refine wpEagerT_op (by rfl) (fun K hK => oper_of_list rfl ?_)
      refine wpList_buildOne rfl 24 23 _ rfl (idA y) rfl 32 Tryd.underlying24 (by kernel_rfl) (by omega) (by omega) (by rw [idA_size, HYL.out]) ?_
      have hy2 : Turns (fun i => (Value.slice q k c).ownBlock = some i) wr (y2.alloc (.cells (idA y) 23)) := hy1.alloc _
      have HBA : Hid (Below wr.heap.size wr (y2.alloc (.cells (idA y) 23))) := HBY.out.alloc HBY.out.size _
      have HMD := Lib.hid (made_id y2 y (idA y) 23 (idA_toList _) HYL.out)
      refine only_end (Shut.out hK _ _ hy2 ?_)
      clear hK K
      (try simp only [Act.put, List.setIfInBounds_toArray, List.set_cons_zero, List.set_cons_succ]); (try refine eagerTOpen rfl ?_)
      refine wpEagerT_op (by rfl) (fun K hK => oper_of_list rfl ?_)
      have HOW := Lib.hid (own_touch HLB.out.own (Turns.of_below (S := fun _ => False) HBA.out) (fun _ _ h => h))
      have HBS : Hid (bb + 1 ≤ (y2.alloc (.cells (idA y) 23)).heap.size) := by have h1 := (Array.getElem?_eq_some_iff.1 HLB.out.row).1; have h2 := HBA.out.size; show _ ≤ _; omega
      refine wpList_append_nx rfl _ _ 24 rfl (base := bb + 1) Tryd.underlying24 infoIds rfl (by omega) rfl HOW.out rfl HMD.out (bytesV_one _) ⟨by omega, by omega⟩ HBS.out ?_
      intro p' c' w5 ho5 hgr hnx _
      have hy5 : Turns (fun i => (Value.slice q k c).ownBlock = some i) wr w5 := hy2.trans (Turns.grown hgr (S := fun i => (Value.slice q k c).ownBlock = some i) (fun k hk => hk)) (fun _ _ h => h)
      refine only_end (Shut.out hK _ _ hy5 ?_)
      clear hK K
      (try simp only [Act.put, List.setIfInBounds_toArray, List.set_cons_zero, List.set_cons_succ]); (try refine eagerTOpen rfl ?_)
      repeat (first | (apply wpEagerT_take; (· rfl); (· (intro w' hb'; go_simp; try with_reducible rfl)); (try simp only [Act.put, List.setIfInBounds_toArray, List.set_cons_zero, List.set_cons_succ]); (try refine eagerTOpen rfl ?_)) | (refine wpEagerT_skip (by rfl) ?_; (try simp only [Act.put, List.setIfInBounds_toArray, List.set_cons_zero, List.set_cons_succ]); (try refine eagerTOpen rfl ?_)))
      refine eagerTEnd (tail1 rfl ?_)
      have hc5 := hk2.out w5 hy5
      have hr5 : w5.heap[bb]? = some (.cells (blkA h1 h2 q k c) 26 (0, 0)) := hy5.keep HLB.out.row (fun hi => by have h9 : bb + 1 ≤ bb := (HNO.out bb hi).1; omega)
      have hf5 := frozen_of_row _ _ 64 _ _ hr5
      have HLB6 : Hid (LB w4 bb h1 h2 (chunks (l.drop 65) (k + 1)) p' (k + 1) c' (w5.setCell ⟨bb, 64, none⟩ (.slice p' (k + 1) c'))) := by
        have hl := HLB.out.low
        have hsb := HBB.out
        refine ⟨?_, ?_, ?_, HHL.out, ?_, chunks_len _ _⟩
        · rw [heap_setCell_same _ _ _ _ _ _ hr5, blkA_set _ _ HHL.out.1 HHL.out.2]
        · rw [HCS.out, List.flatMap_append]
          refine own_touch (by simpa using ho5) ((Turns.refl (fun k => k = bb) w5).setCell (p := ⟨bb, 64, none⟩) (fun _ => rfl) _) (fun i hi e => ?_)
          have := (ho5.lt i hi).1
          omega
        · exact (hl.trans (hy5.below (by have := hl.size; omega) (fun i hi => by have := (HNO.out i hi).1; omega))).setCell (Nat.le_refl _) _
        · intro z hz
          rw [HCS.out] at hz
          rcases List.mem_append.1 hz with hz | hz
          · exact HLB.out.each z hz
          · rw [List.mem_singleton] at hz; rw [hz]; exact HYL.out
      clear hy0 hy1 hy2 hy5 hgr hnx ho5 HOW HMD HBA HBS HBY hr5
      go_wp2_with fail
      refine noPanic_end ?_
      clear hc5 hf5 c64 f64
      generalize w5.setCell ⟨bb, 64, none⟩ (.slice p' (k + 1) c') = w6 at *
      go_wp2_with fail
      go_roundw
      case rel => exact ⟨k + 1, p', c', by omega, by go_num, HLB6.out⟩
      case measure => simp [intOf]; omega
    · have hdk : decide ((k : Int) < (N : Int)) = false := decide_eq_false (by omega)
      have hdk2 : decide (k < N) = false := decide_eq_false hlt
      obtain rfl : k = N := by omega
      have HQW : Hid (QB w wr) := HQ.out.below (by rw [HBB.out]; exact HLB.out.low)
      have HBK := Lib.hid HLB.out.blk
      have HNE : Hid (w.heap.size < bb) := by have h1 := HQ.out.size; have h2 := HBB.out; show _ < _; omega
      have HRW := Lib.hid HLB.out.row
      have HLO := Lib.hid HLB.out.own
      have HEA := Lib.hid HLB.out.each
      have HQG2 := HQG.out
      rw [HQG2] at HDEC
      clear HQ HLB c64 f64 HQG HQG2
      go_wp2_with (refine wpList_load_row rfl 26 _ rfl bb rfl 26 (blkA h1 h2 q k c) (0, 0) _ HRW.out Tryd.underlying26 rfl (infoBlk _ (blk_size HHL.out.1 HHL.out.2 _ _ _)) ?_)
      refine (rRight_any _ _ q k c _ HBK.out).mono ?_
      rintro e w6 ⟨rfl, hb6⟩
      have HQ := Lib.hid (HQW.out.below hb6)
      have HBK6 := Lib.hid (HBK.out.below hb6)
      have HRW6 := Lib.hid (Below.keepOld hb6 HRW.out)
      have HLO6 := Lib.hid (own_touch HLO.out (Turns.of_below (S := fun _ => False) hb6) (fun _ _ h => h))
      clear hb6 HQW HBK HRW
      by_cases hr : rightB ⟨h1, h2, chunks (l.drop 65) k⟩ = true
      · have hdec := HDEC.out
        rw [if_pos hr] at hdec
        rw [hr]
        clear hr HDEC HBD
        subst hdec
        go_wp2_with (first
          | refine wpList_load_row rfl 26 _ rfl bb rfl 26 (blkA h1 h2 q k c) (0, 0) _ HRW6.out Tryd.underlying26 rfl (infoBlk _ (blk_size HHL.out.1 HHL.out.2 _ _ _)) ?_
          | refine wpList_store_row rfl 26 _ _ rfl w.heap.size (blkA h1 h2 q k c) rfl rfl 26 (blkA zeros zeros none 0 0) HQ.out.r0 (infoBlk _ (blk_size HHL.out.1 HHL.out.2 _ _ _)) (by rw [blk_size HHL.out.1 HHL.out.2]; rfl) (blk_one _ _ _ _ _) ?_)
        have HS := Lib.hid (setRow_heap _ _ _ (blkA h1 h2 q k c) _ _ HQ.out.r0)
        refine bodyPost_ret (results_cell_tmp2 rfl _ _ _ _ _ _ _ rfl HS.out Tryd.underlying26 rfl (infoBlk _ (blk_size HHL.out.1 HHL.out.2 _ _ _))) rfl ?_
        refine ⟨blkA h1 h2 q k c, q, k, c, rfl, ?_, below_setRow HQ.out.low (Nat.le_refl _) _⟩
        obtain ⟨p', c', e9, hs⟩ := own_sl (own_touch HLO6.out (turns_setRow w6 w.heap.size (blkA h1 h2 q k c)) (fun i hi e => by have := (HLO6.out.lt i hi).1; have := HNE.out; omega))
        cases e9
        exact ⟨rfl, HHL.out.1, HHL.out.2, hs, HEA.out, chunks_len _ _⟩
      · have hdec := HDEC.out
        rw [if_neg hr] at hdec
        have HRF : Hid (rightB ⟨h1, h2, chunks (l.drop 65) k⟩ = false) := by cases h : rightB ⟨h1, h2, chunks (l.drop 65) k⟩; rfl; exact absurd h hr
        rw [HRF.out]
        have HBAD := Lib.hid (HBD.out 4 hdec.symm)
        clear HDEC HBD hr hdec
        go_wp2_with (first
          | refine wpList_load_row rfl 26 _ rfl (w.heap.size + 1) rfl 26 (blkA zeros zeros none 0 0) (0, 0) _ HQ.out.r1 Tryd.underlying26 rfl (infoBlk _ rfl) ?_
          | refine wpList_store_row rfl 26 _ _ rfl w.heap.size (blkA zeros zeros none 0 0) rfl rfl 26 (blkA zeros zeros none 0 0) HQ.out.r0 (infoBlk _ rfl) rfl (blk_one _ _ _ _ _) ?_)
        have HS := Lib.hid (setRow_heap _ _ _ (blkA zeros zeros none 0 0) _ _ HQ.out.r0)
        refine bodyPost_ret (results_cell_tmp2 rfl _ _ _ _ _ _ _ rfl HS.out Tryd.underlying26 rfl (infoBlk _ rfl)) rfl ?_
        exact HBAD.out _ (below_setRow HQ.out.low (Nat.le_refl _) _)
end Go.Proofs.YtdaigkcbmdcbcaaDoor.Blk
