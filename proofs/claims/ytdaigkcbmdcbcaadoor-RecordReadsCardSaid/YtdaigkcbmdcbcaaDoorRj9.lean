/- PARTS, JOINED: BLOCKS: the reference's Decode. Conditions: at most 2^40 bytes. SLICES OF BYTES, CUT: b[k:k+m], b[:m], b[k:]. Conditions: none. RECORDS: the reference's value; the rows of its Decode. Conditions: sizes that fit. RECORDS: the reference's Decode, of a Disconnect. Conditions: at most 2^40 bytes. RECORDS: the reference's Decode, of an Upload. Conditions: at most 2^40 bytes. -/
import Derived.Test.YtdaigkcbmdcbcaaDoorRj1
import Derived.Test.YtdaigkcbmdcbcaaDoorRj2
import Derived.Test.YtdaigkcbmdcbcaaDoorRj3
import Derived.Test.YtdaigkcbmdcbcaaDoorRj4
import Derived.Test.YtdaigkcbmdcbcaaDoorRj5
import Derived.Test.YtdaigkcbmdcbcaaDoorRj6
import Derived.Test.YtdaigkcbmdcbcaaDoorRj7
import Derived.Test.YtdaigkcbmdcbcaaDoorRj8
import Derived.Test.YtdaigkcbmdcbcaaDoorChecked
namespace Go.Proofs.YtdaigkcbmdcbcaaDoor.Blk
open Go.RowKit Go.Mir Go.Mir.Parts Wr Cod

set_option maxRecDepth 100000 in
theorem rid_any (p : Option Addr) (n c : Nat) (l : List UInt8) (i : Nat) (w : World) (hB : Bs w p n c l) (hi : i + 32 ≤ n) (hn : n ≤ 1099511627776) :
    Calls Tryd.prog 41 #[.slice p n c, .int .i64 (i : Int)] w fun e w' => e = .returned (.agg (idA ((l.drop i).take 32))) ∧ Below w.heap.size w w' := by
  have HB := Lib.hid hB
  have hle := hB.le
  have hmax := hB.max
  have HN : Hid (l.length = n) := hB.length
  have HL : Hid (((l.drop i).take 32).length = 32) := by show _ = _; rw [List.length_take, List.length_drop, HN.out]; omega
  obtain ⟨b, o, rfl⟩ := hB.addr (by omega) (by omega)
  have hz := zeroI
  clear hB
  go_enter Tryd.func41, Tryd.ntmps41
  go_wp2_with fail
  have H2 := Lib.hid (two_allocs w (.cells (idA zeros) 23) (.cells (idA zeros) 23))
  generalize (w.alloc (.cells (idA zeros) 23)).alloc (.cells (idA zeros) 23) = w3 at *
  go_loopw [6] (fun j wr => ∃ (k : Nat) (M : Array Value), k ≤ 32 ∧ j = .int .i64 k ∧ M.toList = bytesV (partN 32 ((l.drop i).take 32) k) ∧ M.size = 32 ∧ wr.heap[w.heap.size]? = some (.cells (idA zeros) 23 (0, 0)) ∧ wr.heap[w.heap.size + 1]? = some (.cells M 23 (0, 0)) ∧ Below w.heap.size w wr) (fun j _ => 32 - (intOf j).toNat)
  case atStart => exact ⟨0, idA zeros, by omega, rfl, by rw [idA_toList]; rfl, rfl, H2.out.1, H2.out.2.1, H2.out.2.2.2⟩
  case round =>
    obtain ⟨k, M, hk, rfl, hM, hMs, hr0, hr1, hbw⟩ := hrel
    have HM := Lib.hid hM
    have HMS := Lib.hid hMs
    have HR0 := Lib.hid hr0
    have HR1 := Lib.hid hr1
    have HBW := Lib.hid hbw
    by_cases hlt : k < 32
    · have hkx : k < ((l.drop i).take 32).length := by rw [HL.out]; omega
      have hik : i + k < l.length := by rw [HN.out]; omega
      have hc := Bs.byte (HB.out.below hbw) hik
      have hge : l[i + k]'hik = ((l.drop i).take 32)[k]'hkx := by simp
      rw [hge] at hc
      obtain ⟨u, hu⟩ : ∃ u, wr.cell? ⟨w.heap.size + 1, k, none⟩ = some u := ⟨_, (cell_of_row _ _ _ _ _ _ hr1).trans (Array.getElem?_eq_getElem (by omega))⟩
      have hf : wr.frozen? ⟨w.heap.size + 1, k, none⟩ = false := frozen_of_row _ _ _ _ _ hr1
      have hd : decide ((k : Int) < 32) = true := decide_eq_true (by omega)
      have hiw : IntKind.i64.wrap ((i : Int) + (k : Int)) = ((i + k : Nat) : Int) := by rw [IntWalk.i64_in _ (by omega)]; omega
      have hin : i + k < n := by omega
      obtain ⟨ik, hik2⟩ : ∃ ik, i + k = ik := ⟨_, rfl⟩
      rw [hik2] at hc hiw hin
      have HKX := Lib.hid hkx
      have HP := Lib.hid (fun (h : M.toList = bytesV (partN 32 ((l.drop i).take 32) k)) => partN_row h hkx hlt)
      generalize ((l.drop i).take 32)[k]'hkx = y at *
      clear hM hMs hr0 hr1 hbw hik2 hge hik hkx
      go_wp2_with fail
      go_roundw
      case rel =>
        have ht := (Turns.refl (fun i => i = w.heap.size + 1) wr).setCell (p := ⟨w.heap.size + 1, k, none⟩) (fun _ => rfl) (.int .u8 (y.toNat : Int))
        exact ⟨k + 1, _, by omega, by go_num, HP.out HM.out, by rw [Array.size_setIfInBounds]; exact HMS.out, ht.keep HR0.out (by omega), heap_setCell_same _ _ _ _ _ _ HR1.out, HBW.out.setCell (Nat.le_add_right _ 1) _⟩
      case measure => simp [intOf]; omega
    · obtain rfl : k = 32 := by omega
      have HME : Hid (M = idA ((l.drop i).take 32)) := by
        show _ = _
        rw [← Array.toArray_toList (xs := M), hM]
        unfold idA partN
        rw [List.take_of_length_le (Nat.le_of_eq HL.out)]
        simp
      rw [HME.out] at hr1
      have HR3 := Lib.hid hr1
      clear hM hMs hr0 hr1 hbw
      go_wp2_with (first
        | refine wpList_load_row rfl 23 _ rfl (w.heap.size + 1) rfl 23 (idA ((l.drop i).take 32)) (0, 0) _ HR3.out Tryd.underlying23 rfl (infoI _ (by rw [idA_size, HL.out])) ?_
        | refine wpList_store_row rfl 23 _ _ rfl w.heap.size (idA ((l.drop i).take 32)) rfl rfl 23 (idA zeros) HR0.out (infoI _ (by rw [idA_size, HL.out])) (by rw [idA_size, idA_size, HL.out]; rfl) (idA_one _) ?_)
      have HS := Lib.hid (setRow_heap _ _ _ (idA ((l.drop i).take 32)) _ _ HR0.out)
      refine bodyPost_ret (results_cell_row rfl _ _ _ _ _ _ _ rfl HS.out Tryd.underlying23 rfl (infoI _ (by rw [idA_size, HL.out]))) rfl ?_
      exact ⟨rfl, below_setRow HBW.out (Nat.le_refl _) _⟩
/-- what lies there: the answer's row, a zero block's -/
structure QB (w x : World) : Prop where
  r0 : x.heap[w.heap.size]? = some (.cells (blkA zeros zeros none 0 0) 26 (0, 0))
  r1 : x.heap[w.heap.size + 1]? = some (.cells (blkA zeros zeros none 0 0) 26 (0, 0))
  low : Below w.heap.size w x
  size : w.heap.size + 2 ≤ x.heap.size
theorem QB.below {w x y : World} (h : QB w x) (hb : Below x.heap.size x y) : QB w y :=
  ⟨Below.keepOld hb h.r0, Below.keepOld hb h.r1, h.low.trans (hb.mono h.low.size), Nat.le_trans h.size hb.size⟩
/-- the block so far: ids of the call's own -/
structure LB (w0 : World) (bb : Nat) (h p : List UInt8) (ids : List (List UInt8)) (q : Option Addr) (n c : Nat) (x : World) : Prop where
  row : x.heap[bb]? = some (.cells (blkA h p q n c) 26 (0, 0))
  own : x.ownsRow (bb + 1) 23 32 (.slice q n c) n (ids.flatMap bytesV)
  low : Below bb w0 x
  len : h.length = 32 ∧ p.length = 32
  each : ∀ y ∈ ids, y.length = 32
  cnt : ids.length = n
theorem LB.cells {w0 x : World} {bb : Nat} {h p : List UInt8} {ids : List (List UInt8)} {q : Option Addr} {n c : Nat} (H : LB w0 bb h p ids q n c x) : x.cell? ⟨bb, 64, none⟩ = some (.slice q n c) ∧ x.frozen? ⟨bb, 64, none⟩ = false := by
  refine ⟨?_, frozen_of_row _ _ 64 _ _ H.row⟩
  have := range_row H.row (bytesV h ++ bytesV p) [Value.slice q n c] [] (by rw [blkA_toList]; simp)
  rw [List.length_append, bytesV_length, bytesV_length, H.len.1, H.len.2] at this
  exact this 0 _ rfl
theorem LB.blk {w0 x : World} {bb : Nat} {h p : List UInt8} {ids : List (List UInt8)} {q : Option Addr} {n c : Nat} (H : LB w0 bb h p ids q n c x) : BlkAt x (blkA h p q n c) ⟨h, p, ids⟩ q n c := by
  obtain ⟨p', c', e9, hs⟩ := own_sl H.own
  cases e9
  exact ⟨rfl, H.len.1, H.len.2, hs, H.each, H.cnt⟩
theorem cn_at {l : List UInt8} (h : 64 < l.length) : cn l = (l[64]'h).toNat := by
  have h1 : (l.drop 64).take 1 = [l[64]'h] := by rw [List.drop_eq_getElem_cons h]; rfl
  unfold cn
  rw [h1, beN_one]
theorem chunks_snoc (L : List UInt8) (k : Nat) : chunks L (k + 1) = chunks L k ++ [(L.drop (32 * k)).take 32] := by
  unfold chunks
  rw [List.range_succ, List.map_append]; rfl
set_option maxRecDepth 100000 in
set_option maxHeartbeats 6400000 in
theorem rdecode_own (p0 : Option Addr) (n0 c0 : Nat) (l : List UInt8) (w : World) (hB : Bs w p0 n0 c0 l) (hn : n0 ≤ 1099511627776) :
    Calls Tryd.prog 16 #[.slice p0 n0 c0] w (DecO (decB l).1 (decB l).2 w) := by
  have hz := zeroB
  have HB := Lib.hid hB
  have hle := hB.le
  have hmax := hB.max
  have HN : Hid (l.length = n0) := hB.length
  obtain ⟨Q, hQ⟩ : ∃ Q, decB l = Q := ⟨_, rfl⟩
  have HBD : Hid (∀ ev : Int, Q = (BlkD.zero, ev) → ∀ w', Below w.heap.size w w' → DecO Q.1 Q.2 w (.returned (.tuple #[.agg (blkA zeros zeros none 0 0), .int .i64 ev])) w') := fun ev he w' hb => by
    rw [he]
    exact ⟨_, none, 0, 0, rfl, ⟨rfl, rfl, rfl, Is.nil _ _⟩, fun a h => (nomatch h), hb⟩
  have hdec := hQ
  unfold decB at hdec
  rw [hQ]
  clear hQ
  by_cases h65 : n0 < 65
  · have hd : decide ((n0 : Int) < (65 : Int)) = true := decide_eq_true (by omega)
    rw [if_pos (by rw [HN.out]; exact h65)] at hdec
    have HBAD := Lib.hid (HBD.out 2 hdec.symm)
    clear HBD h65 hdec hB
    go_enter Tryd.func16, Tryd.ntmps16
    go_upto_region 1 with fail
    have hq0 : (w.alloc (.cells (blkA zeros zeros none 0 0) 26)).heap[w.heap.size]? = some (.cells (blkA zeros zeros none 0 0) 26 (0, 0)) ∧ (w.alloc (.cells (blkA zeros zeros none 0 0) 26)).heap.size = w.heap.size + 1 ∧ Below w.heap.size w (w.alloc (.cells (blkA zeros zeros none 0 0) 26)) := ⟨heap_alloc_last _ _, by simp, Below.allocs _ _⟩
    generalize w.alloc (.cells (blkA zeros zeros none 0 0) 26) = w1 at *
    have HQ0 := Lib.hid hq0
    clear hq0
    go_upto_region 2 with (first
      | refine Rdr.wpList_build rfl 26 _ rfl [] rfl _ build_b0 ?_
      | refine wpList_store_row rfl 26 _ _ rfl w1.heap.size (blkA zeros zeros none 0 0) rfl rfl 26 (blkA zeros zeros none 0 0) (heap_alloc_last _ _) (infoBlk _ rfl) rfl (blk_one _ _ _ _ _) ?_)
    try simp only [Act.put, List.setIfInBounds_toArray, List.set_cons_zero, List.set_cons_succ]
    have hq1 : ((w1.alloc (.cells (blkA zeros zeros none 0 0) 26)).setRow w1.heap.size (blkA zeros zeros none 0 0)).heap[w1.heap.size]? = some (.cells (blkA zeros zeros none 0 0) 26 (0, 0)) ∧ Below w1.heap.size w1 ((w1.alloc (.cells (blkA zeros zeros none 0 0) 26)).setRow w1.heap.size (blkA zeros zeros none 0 0)) ∧ w.heap.size + 2 ≤ ((w1.alloc (.cells (blkA zeros zeros none 0 0) 26)).setRow w1.heap.size (blkA zeros zeros none 0 0)).heap.size := ⟨setRow_heap _ _ _ _ _ _ (heap_alloc_last _ _), below_setRow (Below.allocs _ _) (Nat.le_refl _) _, by have := HQ0.out.2.1; simp [World.setRow]; omega⟩
    generalize (w1.alloc (.cells (blkA zeros zeros none 0 0) 26)).setRow w1.heap.size (blkA zeros zeros none 0 0) = w2 at *
    have hs1 := HQ0.out.2.1
    rw [hs1] at hq1 ⊢
    have HQ : Hid (QB w w2) := ⟨Below.keepBlock hq1.2.1 HQ0.out.1 (by omega), hq1.1, HQ0.out.2.2.trans (hq1.2.1.mono (by omega)), hq1.2.2⟩
    clear hs1 hq1 HQ0
    go_wp2_with (first
      | refine wpList_load_row rfl 26 _ rfl (w.heap.size + 1) rfl 26 (blkA zeros zeros none 0 0) (0, 0) _ HQ.out.r1 Tryd.underlying26 rfl (infoBlk _ rfl) ?_
      | refine wpList_store_row rfl 26 _ _ rfl w.heap.size (blkA zeros zeros none 0 0) rfl rfl 26 (blkA zeros zeros none 0 0) HQ.out.r0 (infoBlk _ rfl) rfl (blk_one _ _ _ _ _) ?_)
    have HS := Lib.hid (setRow_heap _ _ _ (blkA zeros zeros none 0 0) _ _ HQ.out.r0)
    refine bodyPost_ret (results_cell_tmp2 rfl _ _ _ _ _ _ _ rfl HS.out Tryd.underlying26 rfl (infoBlk _ rfl)) rfl ?_
    exact HBAD.out _ (below_setRow HQ.out.low (Nat.le_refl _) _)
  have hd : decide ((n0 : Int) < (65 : Int)) = false := decide_eq_false (by omega)
  rw [if_neg (by rw [HN.out]; exact h65)] at hdec
  obtain ⟨b, o, rfl⟩ := hB.addr (by omega) (by omega)
  clear hB
  have h64 : 64 < l.length := by rw [HN.out]; omega
  have hcn := cn_at h64
  have hNB := (l[64]'h64).toNat_lt
  obtain ⟨N, hNV⟩ : ∃ N, (l[64]'h64).toNat = N := ⟨_, rfl⟩
  have HNV : Hid (∀ w', Below w.heap.size w w' → w'.cell? ⟨b, o + 64, none⟩ = some (.int .u8 (N : Int))) := fun w' hb => by rw [← hNV]; exact Bs.byte (HB.out.below hb) h64
  rw [hNV] at hcn hNB
  clear hNV
  rw [hcn] at hdec
  have hw0 : IntKind.i64.wrap (N : Int) = (N : Int) := IntWalk.i64_in _ (by omega)
  by_cases hov : 32 < N
  · have e1 : decide ((32 : Int) < (N : Int)) = true := decide_eq_true (by omega)
    rw [if_pos hov] at hdec
    have HBAD := Lib.hid (HBD.out 4 hdec.symm)
    clear HBD hdec hov hcn h64
    go_enter Tryd.func16, Tryd.ntmps16
    go_upto_region 1 with fail
    have hq0 : (w.alloc (.cells (blkA zeros zeros none 0 0) 26)).heap[w.heap.size]? = some (.cells (blkA zeros zeros none 0 0) 26 (0, 0)) ∧ (w.alloc (.cells (blkA zeros zeros none 0 0) 26)).heap.size = w.heap.size + 1 ∧ Below w.heap.size w (w.alloc (.cells (blkA zeros zeros none 0 0) 26)) := ⟨heap_alloc_last _ _, by simp, Below.allocs _ _⟩
    generalize w.alloc (.cells (blkA zeros zeros none 0 0) 26) = w1 at *
    have HQ0 := Lib.hid hq0
    clear hq0
    go_upto_region 2 with (first
      | refine Rdr.wpList_build rfl 26 _ rfl [] rfl _ build_b0 ?_
      | refine wpList_store_row rfl 26 _ _ rfl w1.heap.size (blkA zeros zeros none 0 0) rfl rfl 26 (blkA zeros zeros none 0 0) (heap_alloc_last _ _) (infoBlk _ rfl) rfl (blk_one _ _ _ _ _) ?_)
    try simp only [Act.put, List.setIfInBounds_toArray, List.set_cons_zero, List.set_cons_succ]
    have hq1 : ((w1.alloc (.cells (blkA zeros zeros none 0 0) 26)).setRow w1.heap.size (blkA zeros zeros none 0 0)).heap[w1.heap.size]? = some (.cells (blkA zeros zeros none 0 0) 26 (0, 0)) ∧ Below w1.heap.size w1 ((w1.alloc (.cells (blkA zeros zeros none 0 0) 26)).setRow w1.heap.size (blkA zeros zeros none 0 0)) ∧ w.heap.size + 2 ≤ ((w1.alloc (.cells (blkA zeros zeros none 0 0) 26)).setRow w1.heap.size (blkA zeros zeros none 0 0)).heap.size := ⟨setRow_heap _ _ _ _ _ _ (heap_alloc_last _ _), below_setRow (Below.allocs _ _) (Nat.le_refl _) _, by have := HQ0.out.2.1; simp [World.setRow]; omega⟩
    generalize (w1.alloc (.cells (blkA zeros zeros none 0 0) 26)).setRow w1.heap.size (blkA zeros zeros none 0 0) = w2 at *
    have hs1 := HQ0.out.2.1
    rw [hs1] at hq1 ⊢
    have HQ : Hid (QB w w2) := ⟨Below.keepBlock hq1.2.1 HQ0.out.1 (by omega), hq1.1, HQ0.out.2.2.trans (hq1.2.1.mono (by omega)), hq1.2.2⟩
    clear hs1 hq1 HQ0
    have hcb := HNV.out _ HQ.out.low
    go_upto_region 5 with fail
    clear hcb
    go_wp2_with (first
      | refine wpList_load_row rfl 26 _ rfl (w.heap.size + 1) rfl 26 (blkA zeros zeros none 0 0) (0, 0) _ HQ.out.r1 Tryd.underlying26 rfl (infoBlk _ rfl) ?_
      | refine wpList_store_row rfl 26 _ _ rfl w.heap.size (blkA zeros zeros none 0 0) rfl rfl 26 (blkA zeros zeros none 0 0) HQ.out.r0 (infoBlk _ rfl) rfl (blk_one _ _ _ _ _) ?_)
    have HS := Lib.hid (setRow_heap _ _ _ (blkA zeros zeros none 0 0) _ _ HQ.out.r0)
    refine bodyPost_ret (results_cell_tmp2 rfl _ _ _ _ _ _ _ rfl HS.out Tryd.underlying26 rfl (infoBlk _ rfl)) rfl ?_
    exact HBAD.out _ (below_setRow HQ.out.low (Nat.le_refl _) _)
  have e1 : decide ((32 : Int) < (N : Int)) = false := decide_eq_false (by omega)
  rw [if_neg hov, HN.out] at hdec
  obtain ⟨K, hK⟩ : ∃ K, 32 * N = K := ⟨_, rfl⟩
  obtain ⟨T, hT⟩ : ∃ T, 65 + K = T := ⟨_, rfl⟩
  have hw1 : IntKind.i64.wrap (32 * (N : Int)) = (K : Int) := by rw [IntWalk.i64_in _ (by omega)]; omega
  have hw2 : IntKind.i64.wrap (65 + (K : Int)) = (T : Int) := by rw [IntWalk.i64_in _ (by omega)]; omega
  rw [hK, hT] at hdec
  have HKN : Hid (32 * N = K) := hK
  have HTK : Hid (65 + K = T) := hT
  clear hK hT
  by_cases hs : n0 < T
  · have e2 : decide ((n0 : Int) < (T : Int)) = true := decide_eq_true (by omega)
    rw [if_pos hs] at hdec
    have HBAD := Lib.hid (HBD.out 2 hdec.symm)
    clear HBD hdec hcn h64
    have e2b : decide (n0 < T) = true := decide_eq_true hs
    clear hs
    go_enter Tryd.func16, Tryd.ntmps16
    go_upto_region 1 with fail
    have hq0 : (w.alloc (.cells (blkA zeros zeros none 0 0) 26)).heap[w.heap.size]? = some (.cells (blkA zeros zeros none 0 0) 26 (0, 0)) ∧ (w.alloc (.cells (blkA zeros zeros none 0 0) 26)).heap.size = w.heap.size + 1 ∧ Below w.heap.size w (w.alloc (.cells (blkA zeros zeros none 0 0) 26)) := ⟨heap_alloc_last _ _, by simp, Below.allocs _ _⟩
    generalize w.alloc (.cells (blkA zeros zeros none 0 0) 26) = w1 at *
    have HQ0 := Lib.hid hq0
    clear hq0
    go_upto_region 2 with (first
      | refine Rdr.wpList_build rfl 26 _ rfl [] rfl _ build_b0 ?_
      | refine wpList_store_row rfl 26 _ _ rfl w1.heap.size (blkA zeros zeros none 0 0) rfl rfl 26 (blkA zeros zeros none 0 0) (heap_alloc_last _ _) (infoBlk _ rfl) rfl (blk_one _ _ _ _ _) ?_)
    try simp only [Act.put, List.setIfInBounds_toArray, List.set_cons_zero, List.set_cons_succ]
    have hq1 : ((w1.alloc (.cells (blkA zeros zeros none 0 0) 26)).setRow w1.heap.size (blkA zeros zeros none 0 0)).heap[w1.heap.size]? = some (.cells (blkA zeros zeros none 0 0) 26 (0, 0)) ∧ Below w1.heap.size w1 ((w1.alloc (.cells (blkA zeros zeros none 0 0) 26)).setRow w1.heap.size (blkA zeros zeros none 0 0)) ∧ w.heap.size + 2 ≤ ((w1.alloc (.cells (blkA zeros zeros none 0 0) 26)).setRow w1.heap.size (blkA zeros zeros none 0 0)).heap.size := ⟨setRow_heap _ _ _ _ _ _ (heap_alloc_last _ _), below_setRow (Below.allocs _ _) (Nat.le_refl _) _, by have := HQ0.out.2.1; simp [World.setRow]; omega⟩
    generalize (w1.alloc (.cells (blkA zeros zeros none 0 0) 26)).setRow w1.heap.size (blkA zeros zeros none 0 0) = w2 at *
    have hs1 := HQ0.out.2.1
    rw [hs1] at hq1 ⊢
    have HQ : Hid (QB w w2) := ⟨Below.keepBlock hq1.2.1 HQ0.out.1 (by omega), hq1.1, HQ0.out.2.2.trans (hq1.2.1.mono (by omega)), hq1.2.2⟩
    clear hs1 hq1 HQ0
    have hcb := HNV.out _ HQ.out.low
    go_upto_region 5 with fail
    clear hcb
    go_wp2_with (first
      | refine wpList_load_row rfl 26 _ rfl (w.heap.size + 1) rfl 26 (blkA zeros zeros none 0 0) (0, 0) _ HQ.out.r1 Tryd.underlying26 rfl (infoBlk _ rfl) ?_
      | refine wpList_store_row rfl 26 _ _ rfl w.heap.size (blkA zeros zeros none 0 0) rfl rfl 26 (blkA zeros zeros none 0 0) HQ.out.r0 (infoBlk _ rfl) rfl (blk_one _ _ _ _ _) ?_)
    have HS := Lib.hid (setRow_heap _ _ _ (blkA zeros zeros none 0 0) _ _ HQ.out.r0)
    refine bodyPost_ret (results_cell_tmp2 rfl _ _ _ _ _ _ _ rfl HS.out Tryd.underlying26 rfl (infoBlk _ rfl)) rfl ?_
    exact HBAD.out _ (below_setRow HQ.out.low (Nat.le_refl _) _)
  have e2 : decide ((n0 : Int) < (T : Int)) = false := decide_eq_false (by omega)
  have e2b : decide (n0 < T) = false := decide_eq_false hs
  rw [if_neg hs] at hdec
  by_cases hg : T < n0
  · have e3 : decide ((T : Int) < (n0 : Int)) = true := decide_eq_true (by omega)
    have e3b : decide (T < n0) = true := decide_eq_true hg
    rw [if_pos hg] at hdec
    have HBAD := Lib.hid (HBD.out 3 hdec.symm)
    clear HBD hdec hcn h64 hg hs
    go_enter Tryd.func16, Tryd.ntmps16
    go_upto_region 1 with fail
    have hq0 : (w.alloc (.cells (blkA zeros zeros none 0 0) 26)).heap[w.heap.size]? = some (.cells (blkA zeros zeros none 0 0) 26 (0, 0)) ∧ (w.alloc (.cells (blkA zeros zeros none 0 0) 26)).heap.size = w.heap.size + 1 ∧ Below w.heap.size w (w.alloc (.cells (blkA zeros zeros none 0 0) 26)) := ⟨heap_alloc_last _ _, by simp, Below.allocs _ _⟩
    generalize w.alloc (.cells (blkA zeros zeros none 0 0) 26) = w1 at *
    have HQ0 := Lib.hid hq0
    clear hq0
    go_upto_region 2 with (first
      | refine Rdr.wpList_build rfl 26 _ rfl [] rfl _ build_b0 ?_
      | refine wpList_store_row rfl 26 _ _ rfl w1.heap.size (blkA zeros zeros none 0 0) rfl rfl 26 (blkA zeros zeros none 0 0) (heap_alloc_last _ _) (infoBlk _ rfl) rfl (blk_one _ _ _ _ _) ?_)
    try simp only [Act.put, List.setIfInBounds_toArray, List.set_cons_zero, List.set_cons_succ]
    have hq1 : ((w1.alloc (.cells (blkA zeros zeros none 0 0) 26)).setRow w1.heap.size (blkA zeros zeros none 0 0)).heap[w1.heap.size]? = some (.cells (blkA zeros zeros none 0 0) 26 (0, 0)) ∧ Below w1.heap.size w1 ((w1.alloc (.cells (blkA zeros zeros none 0 0) 26)).setRow w1.heap.size (blkA zeros zeros none 0 0)) ∧ w.heap.size + 2 ≤ ((w1.alloc (.cells (blkA zeros zeros none 0 0) 26)).setRow w1.heap.size (blkA zeros zeros none 0 0)).heap.size := ⟨setRow_heap _ _ _ _ _ _ (heap_alloc_last _ _), below_setRow (Below.allocs _ _) (Nat.le_refl _) _, by have := HQ0.out.2.1; simp [World.setRow]; omega⟩
    generalize (w1.alloc (.cells (blkA zeros zeros none 0 0) 26)).setRow w1.heap.size (blkA zeros zeros none 0 0) = w2 at *
    have hs1 := HQ0.out.2.1
    rw [hs1] at hq1 ⊢
    have HQ : Hid (QB w w2) := ⟨Below.keepBlock hq1.2.1 HQ0.out.1 (by omega), hq1.1, HQ0.out.2.2.trans (hq1.2.1.mono (by omega)), hq1.2.2⟩
    clear hs1 hq1 HQ0
    have hcb := HNV.out _ HQ.out.low
    go_upto_region 5 with fail
    clear hcb
    go_wp2_with (first
      | refine wpList_load_row rfl 26 _ rfl (w.heap.size + 1) rfl 26 (blkA zeros zeros none 0 0) (0, 0) _ HQ.out.r1 Tryd.underlying26 rfl (infoBlk _ rfl) ?_
      | refine wpList_store_row rfl 26 _ _ rfl w.heap.size (blkA zeros zeros none 0 0) rfl rfl 26 (blkA zeros zeros none 0 0) HQ.out.r0 (infoBlk _ rfl) rfl (blk_one _ _ _ _ _) ?_)
    have HS := Lib.hid (setRow_heap _ _ _ (blkA zeros zeros none 0 0) _ _ HQ.out.r0)
    refine bodyPost_ret (results_cell_tmp2 rfl _ _ _ _ _ _ _ rfl HS.out Tryd.underlying26 rfl (infoBlk _ rfl)) rfl ?_
    exact HBAD.out _ (below_setRow HQ.out.low (Nat.le_refl _) _)
  have e3 : decide ((T : Int) < (n0 : Int)) = false := decide_eq_false (by omega)
  have e3b : decide (T < n0) = false := decide_eq_false hg
  rw [if_neg hg] at hdec
  have hTn : T = n0 := by omega
  have hN32 : N ≤ 32 := by omega
  have HTN : Hid (65 + 32 * N = n0) := by have h1 := HKN.out; have h2 := HTK.out; show _ = _; omega
  clear hg hs h64 hov hNB
  go_enter Tryd.func16, Tryd.ntmps16
  go_upto_region 1 with fail
  have hq0 : (w.alloc (.cells (blkA zeros zeros none 0 0) 26)).heap[w.heap.size]? = some (.cells (blkA zeros zeros none 0 0) 26 (0, 0)) ∧ (w.alloc (.cells (blkA zeros zeros none 0 0) 26)).heap.size = w.heap.size + 1 ∧ Below w.heap.size w (w.alloc (.cells (blkA zeros zeros none 0 0) 26)) := ⟨heap_alloc_last _ _, by simp, Below.allocs _ _⟩
  generalize w.alloc (.cells (blkA zeros zeros none 0 0) 26) = w1 at *
  have HQ0 := Lib.hid hq0
  clear hq0
  go_upto_region 2 with (first
    | refine Rdr.wpList_build rfl 26 _ rfl [] rfl _ build_b0 ?_
    | refine wpList_store_row rfl 26 _ _ rfl w1.heap.size (blkA zeros zeros none 0 0) rfl rfl 26 (blkA zeros zeros none 0 0) (heap_alloc_last _ _) (infoBlk _ rfl) rfl (blk_one _ _ _ _ _) ?_)
  try simp only [Act.put, List.setIfInBounds_toArray, List.set_cons_zero, List.set_cons_succ]
  have hq1 : ((w1.alloc (.cells (blkA zeros zeros none 0 0) 26)).setRow w1.heap.size (blkA zeros zeros none 0 0)).heap[w1.heap.size]? = some (.cells (blkA zeros zeros none 0 0) 26 (0, 0)) ∧ Below w1.heap.size w1 ((w1.alloc (.cells (blkA zeros zeros none 0 0) 26)).setRow w1.heap.size (blkA zeros zeros none 0 0)) ∧ w.heap.size + 2 ≤ ((w1.alloc (.cells (blkA zeros zeros none 0 0) 26)).setRow w1.heap.size (blkA zeros zeros none 0 0)).heap.size := ⟨setRow_heap _ _ _ _ _ _ (heap_alloc_last _ _), below_setRow (Below.allocs _ _) (Nat.le_refl _) _, by have := HQ0.out.2.1; simp [World.setRow]; omega⟩
  generalize (w1.alloc (.cells (blkA zeros zeros none 0 0) 26)).setRow w1.heap.size (blkA zeros zeros none 0 0) = w2 at *
  have hs1 := HQ0.out.2.1
  rw [hs1] at hq1 ⊢
  have HQ : Hid (QB w w2) := ⟨Below.keepBlock hq1.2.1 HQ0.out.1 (by omega), hq1.1, HQ0.out.2.2.trans (hq1.2.1.mono (by omega)), hq1.2.2⟩
  clear hs1 hq1 HQ0
  have hcb := HNV.out _ HQ.out.low
  go_upto_region 5 with fail
  clear hcb
  have HQG : Hid (getB l = ⟨(l.drop 0).take 32, (l.drop 32).take 32, chunks (l.drop 65) N⟩) := by show _ = _; unfold getB; rw [hcn]; rfl
  have HHL : Hid (((l.drop 0).take 32).length = 32 ∧ ((l.drop 32).take 32).length = 32) := ⟨by rw [List.length_take, List.length_drop, HN.out]; omega, by rw [List.length_take, List.length_drop, HN.out]; omega⟩
  have HDEC := Lib.hid hdec
  clear hdec hcn hTn
  have HI1 : Hid (∀ x, Below w.heap.size w x → Calls Tryd.prog 41 #[.slice (some ⟨b, o, none⟩) n0 c0, .int .i64 0] x fun e w' => e = .returned (.agg (idA ((l.drop 0).take 32))) ∧ Below x.heap.size x w') := fun x hx => rid_any (some ⟨b, o, none⟩) n0 c0 l 0 _ (HB.out.below hx) (by omega) hn
  have HI2 : Hid (∀ x, Below w.heap.size w x → Calls Tryd.prog 41 #[.slice (some ⟨b, o, none⟩) n0 c0, .int .i64 32] x fun e w' => e = .returned (.agg (idA ((l.drop 32).take 32))) ∧ Below x.heap.size x w') := fun x hx => rid_any (some ⟨b, o, none⟩) n0 c0 l 32 _ (HB.out.below hx) (by omega) hn
  generalize (l.drop 0).take 32 = h1 at *
  generalize (l.drop 32).take 32 = h2 at *
  go_wp2_with fail
  refine (HI1.out _ HQ.out.low).mono ?_
  rintro e w3 ⟨rfl, hb3⟩
  have hq3 := HQ.out.below hb3
  clear HQ hb3
  have HQ := Lib.hid hq3
  clear hq3
  go_wp2_with fail
  refine (HI2.out _ HQ.out.low).mono ?_
  rintro e w4 ⟨rfl, hb4⟩
  have hq4 := HQ.out.below hb4
  clear HQ hb4
  have HQ := Lib.hid hq4
  clear hq4
  go_upto_region 12 with (first
    | ((with_reducible refine wpAt 38 ?_); refine Rdr.wpList_build rfl 26 _ rfl [(0, .agg (idA h1)), (1, .agg (idA h2))] rfl _ (build_blk _ _ HHL.out.1 HHL.out.2) ?_)
    | ((with_reducible refine wpStoreAt 6 ?_); refine wpList_store_row rfl 26 _ _ rfl w4.heap.size (blkA h1 h2 none 0 0) rfl rfl 26 (blkA zeros zeros none 0 0) (heap_alloc_last _ _) (infoBlk _ (blk_size HHL.out.1 HHL.out.2 _ _ _)) (by rw [blk_size HHL.out.1 HHL.out.2]; rfl) (blk_one _ _ _ _ _) ?_))
  try simp only [Act.put, List.setIfInBounds_toArray, List.set_cons_zero, List.set_cons_succ]
  have HLB : Hid (LB w4 w4.heap.size h1 h2 [] none 0 0 ((w4.alloc (.cells (blkA zeros zeros none 0 0) 26)).setRow w4.heap.size (blkA h1 h2 none 0 0))) :=
    ⟨setRow_heap _ _ _ _ _ _ (heap_alloc_last _ _), ⟨rfl, .inl ⟨rfl, rfl⟩⟩, below_setRow (Below.allocs _ _) (Nat.le_refl _) _, HHL.out, fun y hy => (nomatch hy), rfl⟩
  generalize (w4.alloc (.cells (blkA zeros zeros none 0 0) 26)).setRow w4.heap.size (blkA h1 h2 none 0 0) = w5 at *
  obtain ⟨bb, hbb⟩ : ∃ bb, w4.heap.size = bb := ⟨_, rfl⟩
  rw [hbb] at HLB ⊢
  have HBB : Hid (w4.heap.size = bb) := hbb
  clear hbb
  go_wp2_with fail
  go_loopw [7] (fun j wr => ∃ (k : Nat) (q : Option Addr) (c : Nat), k ≤ N ∧ j = .int .i64 k ∧ LB w4 bb h1 h2 (chunks (l.drop 65) k) q k c wr) (fun j _ => N - (intOf j).toNat)
  case atStart => exact ⟨0, none, 0, by omega, rfl, HLB.out⟩
  case round =>
    clear HLB
    obtain ⟨k, q, c, hk, rfl, hlb⟩ := hrel
    have HLB := Lib.hid hlb
    obtain ⟨c64, f64⟩ := hlb.cells
    clear hlb
    by_cases hlt : k < N
    · have hdk : decide ((k : Int) < (N : Int)) = true := decide_eq_true (by omega)
      have hdk2 : decide (k < N) = true := decide_eq_true hlt
      have hm1 : IntKind.i64.wrap (32 * (k : Int)) = ((32 * k : Nat) : Int) := by rw [IntWalk.i64_in _ (by omega)]; omega
      have hm2 : IntKind.i64.wrap (65 + ((32 * k : Nat) : Int)) = ((65 + 32 * k : Nat) : Int) := by rw [IntWalk.i64_in _ (by omega)]; omega
      have HNO : Hid (∀ i, (Value.slice q k c).ownBlock = some i → bb + 1 ≤ i ∧ i < wr.heap.size) := fun i hi => HLB.out.own.lt i hi
      have hk2 : Hid (∀ w', Turns (fun i => (Value.slice q k c).ownBlock = some i) wr w' → w'.cell? ⟨bb, 64, none⟩ = some (.slice q k c)) := fun w' ht => ht.cell c64 (fun hi => by have h9 : bb + 1 ≤ bb := (HNO.out bb hi).1; omega)
      have HBW : Hid (Below w.heap.size w wr) := HQ.out.low.trans (HLB.out.low.mono (by have := HQ.out.size; have := HBB.out; omega))
      have HRI : Hid (∀ x, Below wr.heap.size wr x → Calls Tryd.prog 41 #[.slice (some ⟨b, o, none⟩) n0 c0, .int .i64 ((65 + 32 * k : Nat) : Int)] x fun e w' => e = .returned (.agg (idA ((l.drop (65 + 32 * k)).take 32))) ∧ Below x.heap.size x w') := fun x hx => rid_any (some ⟨b, o, none⟩) n0 c0 l (65 + 32 * k) x (HB.out.below (HBW.out.trans (hx.mono HBW.out.size))) (by have := HTN.out; omega) hn
      have HCS : Hid (chunks (l.drop 65) (k + 1) = chunks (l.drop 65) k ++ [(l.drop (65 + 32 * k)).take 32]) := by show _ = _; rw [chunks_snoc, List.drop_drop]
      have HYL : Hid (((l.drop (65 + 32 * k)).take 32).length = 32) := by show _ = _; rw [List.length_take, List.length_drop, HN.out]; have := HTN.out; omega
      generalize (l.drop (65 + 32 * k)).take 32 = y at *
      generalize ((65 + 32 * k : Nat) : Int) = P at *
      generalize ((32 * k : Nat) : Int) = P2 at *
      go_wp2_with fail
      refine wp_region_eager_t (Turns (fun i => (Value.slice q k c).ownBlock = some i) wr) [0, 1, 2, 3, 4, 5, 9] [(0, true), (1, true), (2, true), (3, true), (4, true), (5, true), (6, false), (7, false), (8, false), (9, true)] [10] (by kernel_rfl) (by kernel_rfl) ?_ (eagerTOpen rfl ?_)
      · exact (Turns.refl _ _).drew
      have hy0 : Turns (fun i => (Value.slice q k c).ownBlock = some i) wr wr.drew := (Turns.refl _ _).drew
      repeat (first
        | (first | (apply wpEagerT_take; (· rfl); (· (intro w' hb'; go_simp; try with_reducible rfl)); (try simp only [Act.put, List.setIfInBounds_toArray, List.set_cons_zero, List.set_cons_succ]); (try refine eagerTOpen rfl ?_)) | (refine wpEagerT_skip (by rfl) ?_; (try simp only [Act.put, List.setIfInBounds_toArray, List.set_cons_zero, List.set_cons_succ]); (try refine eagerTOpen rfl ?_)))
        | (apply wpEagerT_take; (· rfl); (· (intro w' hb'; have hk' := (hk2.out) w' hb'; go_split_ands; go_simp; try with_reducible rfl)); (try simp only [Act.put, List.setIfInBounds_toArray, List.set_cons_zero, List.set_cons_succ]); (try refine eagerTOpen rfl ?_)))
      (refine wpEagerT_op (by rfl) (fun K hK => ?_); go_simp; (refine (HRI.out _ (below_drew1 _ _)).mono ?_; rintro e y2 ⟨rfl, hb⟩; have HBY := Lib.hid ((below_drew1 wr.heap.size wr).trans hb); have hy1 : Turns (fun i => (Value.slice q k c).ownBlock = some i) wr y2 := hy0.trans (Turns.of_below (S := fun _ => False) hb) (fun _ _ h => h.elim); clear hb); refine Shut.out hK _ _ (by assumption) ?_; clear hK K; (try simp only [Act.put, List.setIfInBounds_toArray, List.set_cons_zero, List.set_cons_succ]); (try refine eagerTOpen rfl ?_))
      refine wpEagerT_op (by rfl) (fun K hK => oper_of_list rfl ?_)
      refine wpList_buildOne rfl 24 23 _ rfl (idA y) rfl 32 Tryd.underlying24 (by kernel_rfl) (by omega) (by omega) (by rw [idA_size, HYL.out]) ?_
      have hy2 : Turns (fun i => (Value.slice q k c).ownBlock = some i) wr (y2.alloc (.cells (idA y) 23)) := hy1.alloc _
      have HBA : Hid (Below wr.heap.size wr (y2.alloc (.cells (idA y) 23))) := HBY.out.alloc HBY.out.size _
      have HMD := Lib.hid (made_id y2 y (idA y) 23 (idA_toList _) HYL.out)
      refine only_end (Shut.out hK _ _ hy2 ?_)
      clear hK K
      (try simp only [Act.put, List.setIfInBounds_toArray, List.set_cons_zero, List.set_cons_succ]); (try refine eagerTOpen rfl ?_)
      refine wpEagerT_op (by rfl) (fun K hK => oper_of_list rfl ?_)
      have HOW := Lib.hid (own_touch HLB.out.own (Turns.of_below (S := fun _ => False) HBA.out) (fun _ _ h => h))
      have HBS : Hid (bb + 1 ≤ (y2.alloc (.cells (idA y) 23)).heap.size) := by have h1 := (Array.getElem?_eq_some_iff.1 HLB.out.row).1; have h2 := HBA.out.size; show _ ≤ _; omega
      refine wpList_append_nx rfl _ _ 24 rfl (base := bb + 1) Tryd.underlying24 infoIds rfl (by omega) rfl HOW.out rfl HMD.out (bytesV_one _) ⟨by omega, by omega⟩ HBS.out ?_
      intro p' c' w5 ho5 hgr hnx _
      have hy5 : Turns (fun i => (Value.slice q k c).ownBlock = some i) wr w5 := hy2.trans (Turns.grown hgr (S := fun i => (Value.slice q k c).ownBlock = some i) (fun k hk => hk)) (fun _ _ h => h)
      refine only_end (Shut.out hK _ _ hy5 ?_)
      clear hK K
      (try simp only [Act.put, List.setIfInBounds_toArray, List.set_cons_zero, List.set_cons_succ]); (try refine eagerTOpen rfl ?_)
      repeat (first | (apply wpEagerT_take; (· rfl); (· (intro w' hb'; go_simp; try with_reducible rfl)); (try simp only [Act.put, List.setIfInBounds_toArray, List.set_cons_zero, List.set_cons_succ]); (try refine eagerTOpen rfl ?_)) | (refine wpEagerT_skip (by rfl) ?_; (try simp only [Act.put, List.setIfInBounds_toArray, List.set_cons_zero, List.set_cons_succ]); (try refine eagerTOpen rfl ?_)))
      refine eagerTEnd (tail1 rfl ?_)
      have hc5 := hk2.out w5 hy5
      have hr5 : w5.heap[bb]? = some (.cells (blkA h1 h2 q k c) 26 (0, 0)) := hy5.keep HLB.out.row (fun hi => by have h9 : bb + 1 ≤ bb := (HNO.out bb hi).1; omega)
      have hf5 := frozen_of_row _ _ 64 _ _ hr5
      have HLB6 : Hid (LB w4 bb h1 h2 (chunks (l.drop 65) (k + 1)) p' (k + 1) c' (w5.setCell ⟨bb, 64, none⟩ (.slice p' (k + 1) c'))) := by
        have hl := HLB.out.low
        have hsb := HBB.out
        refine ⟨?_, ?_, ?_, HHL.out, ?_, chunks_len _ _⟩
        · rw [heap_setCell_same _ _ _ _ _ _ hr5, blkA_set _ _ HHL.out.1 HHL.out.2]
        · rw [HCS.out, List.flatMap_append]
          refine own_touch (by simpa using ho5) ((Turns.refl (fun k => k = bb) w5).setCell (p := ⟨bb, 64, none⟩) (fun _ => rfl) _) (fun i hi e => ?_)
          have := (ho5.lt i hi).1
          omega
        · exact (hl.trans (hy5.below (by have := hl.size; omega) (fun i hi => by have := (HNO.out i hi).1; omega))).setCell (Nat.le_refl _) _
        · intro z hz
          rw [HCS.out] at hz
          rcases List.mem_append.1 hz with hz | hz
          · exact HLB.out.each z hz
          · rw [List.mem_singleton] at hz; rw [hz]; exact HYL.out
      clear hy0 hy1 hy2 hy5 hgr hnx ho5 HOW HMD HBA HBS HBY hr5
      go_wp2_with fail
      refine noPanic_end ?_
      clear hc5 hf5 c64 f64
      generalize w5.setCell ⟨bb, 64, none⟩ (.slice p' (k + 1) c') = w6 at *
      go_wp2_with fail
      go_roundw
      case rel => exact ⟨k + 1, p', c', by omega, by go_num, HLB6.out⟩
      case measure => simp [intOf]; omega
    · have hdk : decide ((k : Int) < (N : Int)) = false := decide_eq_false (by omega)
      have hdk2 : decide (k < N) = false := decide_eq_false hlt
      obtain rfl : k = N := by omega
      have HQW : Hid (QB w wr) := HQ.out.below (by rw [HBB.out]; exact HLB.out.low)
      have HBK := Lib.hid HLB.out.blk
      have HNE : Hid (w.heap.size < bb) := by have h1 := HQ.out.size; have h2 := HBB.out; show _ < _; omega
      have HRW := Lib.hid HLB.out.row
      have HLO := Lib.hid HLB.out.own
      have HEA := Lib.hid HLB.out.each
      have HQG2 := HQG.out
      rw [HQG2] at HDEC
      clear HQ HLB c64 f64 HQG HQG2
      go_wp2_with (refine wpList_load_row rfl 26 _ rfl bb rfl 26 (blkA h1 h2 q k c) (0, 0) _ HRW.out Tryd.underlying26 rfl (infoBlk _ (blk_size HHL.out.1 HHL.out.2 _ _ _)) ?_)
      refine (rRight_any _ _ q k c _ HBK.out).mono ?_
      rintro e w6 ⟨rfl, hb6⟩
      have HQ := Lib.hid (HQW.out.below hb6)
      have HBK6 := Lib.hid (HBK.out.below hb6)
      have HRW6 := Lib.hid (Below.keepOld hb6 HRW.out)
      have HLO6 := Lib.hid (own_touch HLO.out (Turns.of_below (S := fun _ => False) hb6) (fun _ _ h => h))
      clear hb6 HQW HBK HRW
      by_cases hr : rightB ⟨h1, h2, chunks (l.drop 65) k⟩ = true
      · have hdec := HDEC.out
        rw [if_pos hr] at hdec
        rw [hr]
        clear hr HDEC HBD
        subst hdec
        go_wp2_with (first
          | refine wpList_load_row rfl 26 _ rfl bb rfl 26 (blkA h1 h2 q k c) (0, 0) _ HRW6.out Tryd.underlying26 rfl (infoBlk _ (blk_size HHL.out.1 HHL.out.2 _ _ _)) ?_
          | refine wpList_store_row rfl 26 _ _ rfl w.heap.size (blkA h1 h2 q k c) rfl rfl 26 (blkA zeros zeros none 0 0) HQ.out.r0 (infoBlk _ (blk_size HHL.out.1 HHL.out.2 _ _ _)) (by rw [blk_size HHL.out.1 HHL.out.2]; rfl) (blk_one _ _ _ _ _) ?_)
        have HS := Lib.hid (setRow_heap _ _ _ (blkA h1 h2 q k c) _ _ HQ.out.r0)
        refine bodyPost_ret (results_cell_tmp2 rfl _ _ _ _ _ _ _ rfl HS.out Tryd.underlying26 rfl (infoBlk _ (blk_size HHL.out.1 HHL.out.2 _ _ _))) rfl ?_
        refine ⟨blkA h1 h2 q k c, q, k, c, rfl, ?_, fun a ha => (by subst ha; have := (HLO6.out.lt a.block (by simp [Value.ownBlock])).1; have := HNE.out; omega), below_setRow HQ.out.low (Nat.le_refl _) _⟩
        obtain ⟨p', c', e9, hs⟩ := own_sl (own_touch HLO6.out (turns_setRow w6 w.heap.size (blkA h1 h2 q k c)) (fun i hi e => by have := (HLO6.out.lt i hi).1; have := HNE.out; omega))
        cases e9
        exact ⟨rfl, HHL.out.1, HHL.out.2, hs, HEA.out, chunks_len _ _⟩
      · have hdec := HDEC.out
        rw [if_neg hr] at hdec
        have HRF : Hid (rightB ⟨h1, h2, chunks (l.drop 65) k⟩ = false) := by cases h : rightB ⟨h1, h2, chunks (l.drop 65) k⟩; rfl; exact absurd h hr
        rw [HRF.out]
        have HBAD := Lib.hid (HBD.out 4 hdec.symm)
        clear HDEC HBD hr hdec
        go_wp2_with (first
          | refine wpList_load_row rfl 26 _ rfl (w.heap.size + 1) rfl 26 (blkA zeros zeros none 0 0) (0, 0) _ HQ.out.r1 Tryd.underlying26 rfl (infoBlk _ rfl) ?_
          | refine wpList_store_row rfl 26 _ _ rfl w.heap.size (blkA zeros zeros none 0 0) rfl rfl 26 (blkA zeros zeros none 0 0) HQ.out.r0 (infoBlk _ rfl) rfl (blk_one _ _ _ _ _) ?_)
        have HS := Lib.hid (setRow_heap _ _ _ (blkA zeros zeros none 0 0) _ _ HQ.out.r0)
        refine bodyPost_ret (results_cell_tmp2 rfl _ _ _ _ _ _ _ rfl HS.out Tryd.underlying26 rfl (infoBlk _ rfl)) rfl ?_
        exact HBAD.out _ (below_setRow HQ.out.low (Nat.le_refl _) _)
theorem rdecode_any (p0 : Option Addr) (n0 c0 : Nat) (l : List UInt8) (w : World) (hB : Bs w p0 n0 c0 l) (hn : n0 ≤ 1099511627776) :
    Calls Tryd.prog 16 #[.slice p0 n0 c0] w (DecP (decB l).1 (decB l).2 w) := by
  refine (rdecode_own p0 n0 c0 l w hB hn).mono ?_
  rintro e w' ⟨M, q, n, c, he, hb, _, hl⟩
  exact ⟨M, q, n, c, he, hb, hl⟩
end Go.Proofs.YtdaigkcbmdcbcaaDoor.Blk

namespace Go.Proofs.YtdaigkcbmdcbcaaDoor.Cut
open Go.RowKit Go.Mir Go.Mir.Parts

def cutQ (p : Option Addr) (c k : Nat) : Option Addr := if c = k then p else p.map (·.add k)
theorem bs_cut {w : World} {p : Option Addr} {L c : Nat} {l : List UInt8} (h : Bs w p L c l) (k m : Nat) (hk : k + m ≤ L) : Bs w (cutQ p c k) m (c - k) ((l.drop k).take m) := by
  have hle := h.le
  have hmax := h.max
  have hl := h.length
  unfold cutQ
  by_cases hc : c = k
  · have hm : m = 0 := by omega
    subst hm
    rw [if_pos hc, hc, Nat.sub_self, List.take_zero]
    exact ⟨by simp [bytesV], Nat.le_refl _, by omega, fun _ => rfl, fun a ha j u hu => by simp [bytesV] at hu⟩
  · rw [if_neg hc]
    refine ⟨by rw [bytesV_length, List.length_take, List.length_drop, Nat.mul_one]; omega, by omega, by omega, fun hq => ?_, fun a ha j u hu => ?_⟩
    · cases p with
      | none => have := h.nil0 rfl; omega
      | some a => cases hq
    · cases p with
      | none => cases ha
      | some a0 =>
        have hj : j < m := by
          have := (List.getElem?_eq_some_iff.1 hu).1
          rw [bytesV_length, List.length_take] at this
          omega
        obtain ⟨b, o, hbo⟩ := h.addr (by omega) (by omega)
        obtain rfl := Option.some.inj hbo
        obtain rfl := Option.some.inj ha
        have h1 : (bytesV l)[k + j]? = some u := by
          rw [bytesV, List.getElem?_map] at hu ⊢
          rw [List.getElem?_take, if_pos hj, List.getElem?_drop] at hu
          exact hu
        have h2 := h.cell _ rfl (k + j) u h1
        rw [add_none] at h2
        show w.cell? (((⟨b, o, none⟩ : Addr).add k).add j) = some u
        rw [add_none, add_none, Nat.add_assoc]
        exact h2
theorem bs_drop {w : World} {p : Option Addr} {L c : Nat} {l : List UInt8} (h : Bs w p L c l) (k : Nat) (hk : k ≤ L) : Bs w (cutQ p c k) (L - k) (c - k) (l.drop k) := by
  have := bs_cut h k (L - k) (by omega)
  rwa [List.take_of_length_le (by rw [List.length_drop, h.length]; omega)] at this
theorem bs_take {w : World} {p : Option Addr} {n c k : Nat} {l : List UInt8} (h : Bs w p n c l) (hk : k ≤ n) : Bs w p k c (l.take k) :=
  ⟨by rw [bytesV_length, List.length_take, h.length, Nat.mul_one]; exact Nat.min_eq_left hk, Nat.le_trans hk h.le, h.max, h.nil0, fun a ha j u hu => by
    rw [show bytesV (l.take k) = (bytesV l).take k by simp [bytesV, List.map_take], List.getElem?_take] at hu
    split at hu
    · exact h.cell a ha j u hu
    · cases hu⟩
theorem cut3 {w : World} {p : Option Addr} {L c : Nat} {l : List UInt8} (h : Bs w p L c l) (k m : Nat) (lo hi : Int) (hlo : lo = (k : Int)) (hhi : hi = ((k + m : Nat) : Int)) (hk : k + m ≤ L) :
    ∀ w0, (Instr.sliceAt 29 (.slice p L c) (some (.int .i64 lo)) (some (.int .i64 hi)) none).run Tryd.prog w0 = .ok (.slice (cutQ p c k) m (c - k)) w0 := by
  subst hlo hhi
  have hle := h.le
  have hmax := h.max
  have hsz : (Tryd.prog.info? 5).map (·.size) = some 1 := by kernel_rfl
  obtain ⟨i, hi, hi1⟩ := Option.map_eq_some_iff.1 hsz
  have e1 : ((k : Int) + (m : Int)).toNat = k + m := by omega
  intro w0
  have hb1 : (0 : Int) ≤ (k : Int) + (m : Int) ∧ (k : Int) + (m : Int) ≤ (c : Int) := by omega
  have hb3 : (0 : Int) ≤ (k : Int) ∧ (k : Int) ≤ ((k + m : Nat) : Int) := by omega
  simp [Instr.sliceAt, Instr.slice, cutQ, run_underlying Tryd.underlying29, Instr.sliceBounds, Instr.sliceBound, asIntOf, sizeOf, typeInfo, hi, hi1, e1, hb1, hb3]
  try omega
theorem cut0 {w : World} {p : Option Addr} {L c : Nat} {l : List UInt8} (h : Bs w p L c l) (m : Nat) (hi : Int) (hhi : hi = (m : Int)) (hk : m ≤ L) :
    ∀ w0, (Instr.sliceAt 29 (.slice p L c) none (some (.int .i64 hi)) none).run Tryd.prog w0 = .ok (.slice p m c) w0 := by
  subst hhi
  have hle := h.le
  have hmax := h.max
  have hsz : (Tryd.prog.info? 5).map (·.size) = some 1 := by kernel_rfl
  obtain ⟨i, hi, hi1⟩ := Option.map_eq_some_iff.1 hsz
  intro w0
  have hb1 : (0 : Int) ≤ (m : Int) ∧ (m : Int) ≤ (c : Int) := by omega
  have hp : p.map (fun a => a.add 0) = p := by cases p <;> rfl
  simp [Instr.sliceAt, Instr.slice, run_underlying Tryd.underlying29, Instr.sliceBounds, Instr.sliceBound, asIntOf, sizeOf, typeInfo, hi, hi1, hb1, hp]
  try omega
/-- from a place on -/
theorem cutR {w : World} {p : Option Addr} {L c : Nat} {l : List UInt8} (h : Bs w p L c l) (k : Nat) (lo : Int) (hlo : lo = (k : Int)) (hk : k ≤ L) :
    ∀ w0, (Instr.sliceAt 29 (.slice p L c) (some (.int .i64 lo)) none none).run Tryd.prog w0 = .ok (.slice (cutQ p c k) (L - k) (c - k)) w0 := by
  subst hlo
  have hle := h.le
  have hmax := h.max
  have hsz : (Tryd.prog.info? 5).map (·.size) = some 1 := by kernel_rfl
  obtain ⟨i, hi, hi1⟩ := Option.map_eq_some_iff.1 hsz
  intro w0
  have hb1 : (0 : Int) ≤ (L : Int) ∧ (L : Int) ≤ (c : Int) := by omega
  have hb3 : (0 : Int) ≤ (k : Int) ∧ (k : Int) ≤ (L : Int) := by omega
  simp [Instr.sliceAt, Instr.slice, cutQ, run_underlying Tryd.underlying29, Instr.sliceBounds, Instr.sliceBound, asIntOf, sizeOf, typeInfo, hi, hi1, hb1, hb3]
  try omega
theorem bconv {w : World} {p : Option Addr} {n c : Nat} {l : List UInt8} (h : Bs w p n c l) : (convert 29 9 (.slice p n c)).run Tryd.prog w = .ok (.string (S l)) w :=
  run_conv (P := Tryd.prog) 29 9 5 Tryd.underlying29 Tryd.underlying5 Tryd.underlying9 h
theorem own_bs {w : World} {base n : Nat} {p : Option Addr} {c : Nat} {l : List UInt8} (h : w.ownsRow base 5 1 (.slice p n c) n (bytesV l)) : Bs w p n c l := by
  obtain ⟨p9, c9, e9, h9⟩ := own_sl h
  cases e9
  exact h9
/-- no bytes: nothing that could turn -/
theorem bs_zero {w w' : World} {p : Option Addr} {n c : Nat} {l : List UInt8} (h : Bs w p n c l) (hn : n = 0) : Bs w' p n c l := by
  subst hn
  have hl : l = [] := List.length_eq_zero_iff.1 h.length
  subst hl
  exact ⟨h.len, h.le, h.max, h.nil0, fun a ha j u hu => by simp [bytesV] at hu⟩
theorem bs_touch {S : Nat → Prop} {w w' : World} {p : Option Addr} {n c : Nat} {l : List UInt8} (h : Bs w p n c l) (ht : Turns S w w') (ho : 0 < n → ∀ a, p = some a → ¬ S a.block) : Bs w' p n c l := by
  by_cases h0 : 0 < n
  · exact h.touch ht (fun a ha _ => ho h0 a ha)
  · exact bs_zero h (by omega)
end Go.Proofs.YtdaigkcbmdcbcaaDoor.Cut

namespace Go.Proofs.YtdaigkcbmdcbcaaDoor.Rec
open Go.RowKit Go.Mir Go.Mir.Parts Wr Cod Blk

theorem cut3 {w : World} {p : Option Addr} {L c : Nat} (l : List UInt8) (h : Bs w p L c l) (k m : Nat) (lo hi : Int) (hlo : lo = (k : Int)) (hhi : hi = (k : Int) + (m : Int)) (hk : k + m ≤ L) :
    ∃ q, (∀ w0, (Instr.sliceAt 29 (.slice p L c) (some (.int .i64 lo)) (some (.int .i64 hi)) none).run Tryd.prog w0 = .ok (.slice q m (c - k)) w0) ∧
      ∀ w', Below w.heap.size w w' → Bs w' q m (c - k) ((l.drop k).take m) := by
  subst hlo hhi
  have hle := h.le
  have hmax := h.max
  have hsz : (Tryd.prog.info? 5).map (·.size) = some 1 := by kernel_rfl
  obtain ⟨i, hi, hi1⟩ := Option.map_eq_some_iff.1 hsz
  have e1 : ((k : Int) + (m : Int)).toNat = k + m := by omega
  have hrun : ∀ w0, (Instr.sliceAt 29 (.slice p L c) (some (.int .i64 (k : Int))) (some (.int .i64 ((k : Int) + (m : Int)))) none).run Tryd.prog w0 = .ok (.slice (if c = k then p else p.map (·.add k)) m (c - k)) w0 := fun w0 => by
    have hb1 : (0 : Int) ≤ (k : Int) + (m : Int) ∧ (k : Int) + (m : Int) ≤ (c : Int) := by omega
    have hb3 : (0 : Int) ≤ (k : Int) ∧ (k : Int) ≤ ((k + m : Nat) : Int) := by omega
    simp [Instr.sliceAt, Instr.slice, run_underlying Tryd.underlying29, Instr.sliceBounds, Instr.sliceBound, asIntOf, sizeOf, typeInfo, hi, hi1, e1, hb1, hb3]
    try omega
  refine ⟨_, hrun, fun w' hw => ?_⟩
  have hl := h.length
  by_cases hc : c = k
  · have hm : m = 0 := by omega
    subst hm
    rw [if_pos hc, hc, Nat.sub_self, List.take_zero]
    exact ⟨by simp [bytesV], Nat.le_refl _, by omega, fun _ => rfl, fun a ha j u hu => by simp [bytesV] at hu⟩
  · rw [if_neg hc]
    refine ⟨by rw [bytesV_length, List.length_take, List.length_drop, Nat.mul_one]; omega, by omega, by omega, fun hq => ?_, fun a ha j u hu => ?_⟩
    · cases p with
      | none => have := h.nil0 rfl; omega
      | some a => cases hq
    · cases p with
      | none => cases ha
      | some a0 =>
        have hj : j < m := by
          have := (List.getElem?_eq_some_iff.1 hu).1
          rw [bytesV_length, List.length_take] at this
          omega
        obtain ⟨b, o, hbo⟩ := h.addr (by omega) (by omega)
        obtain rfl := Option.some.inj hbo
        obtain rfl := Option.some.inj ha
        have h1 : (bytesV l)[k + j]? = some u := by
          rw [bytesV, List.getElem?_map] at hu ⊢
          rw [List.getElem?_take, if_pos hj, List.getElem?_drop] at hu
          exact hu
        have h2 := (h.below hw).cell _ rfl (k + j) u h1
        rw [add_none] at h2
        show w'.cell? (((⟨b, o, none⟩ : Addr).add k).add j) = some u
        rw [add_none, add_none, Nat.add_assoc]
        exact h2
set_option maxRecDepth 100000 in
theorem value_any (p : Option Addr) (n c : Nat) (l : List UInt8) (w : World) (hB : Bs w p n c l) (hn : n ≤ 4) :
    Calls Tryd.prog 49 #[.slice p n c] w fun e w' => e = .returned (.int .u32 (Rdr.beN l : Int)) ∧ w = w' := by
  have HB := Lib.hid hB
  have HN := Lib.hid hB.length
  have hle := hB.le
  have hmax := hB.max
  clear hB
  go_enter Tryd.func49, Tryd.ntmps49
  go_wp2_with fail
  go_loop [3, 4] (fun x j => ∃ k : Nat, k ≤ n ∧ j = .int .i64 k ∧ x = .int .u32 (Rdr.beN (l.take k) : Nat)) (fun _ j => n - (intOf j).toNat)
  case atStart => exact ⟨0, by omega, rfl, rfl⟩
  case round =>
    obtain ⟨k, hk, rfl, rfl⟩ := hrel
    by_cases hlt : k < n
    · have hd : decide ((k:Int) < n) = true := by simp; omega
      obtain ⟨b', o', rfl⟩ := HB.out.addr (by omega) (by omega)
      have hc' := Bs.byte HB.out (j := k) (by rw [HN.out]; omega)
      have hbe := Rdr.beN_snoc (l.take k) (l[k]'(by rw [HN.out]; omega))
      rw [← take_snoc l k (by rw [HN.out]; omega)] at hbe
      have hb1 := Rdr.beN_lt_pow (l.take (k + 1))
      have hb2 : 256 ^ (l.take (k + 1)).length ≤ 256 ^ 4 := Nat.pow_le_pow_right (by omega) (by rw [List.length_take, HN.out]; omega)
      have hb4 : (256 : Nat) ^ 4 = 4294967296 := by decide
      generalize l[k]'(by rw [HN.out]; omega) = y at *
      have hll : y.toNat < 256 := y.toNat_lt
      generalize hB0 : Rdr.beN (l.take k) = B at *
      generalize hB2 : Rdr.beN (l.take (k + 1)) = B2 at *
      have HB2 := Lib.hid hB2
      have q1 : IntKind.u32.wrap ((256 : Int) * (B : Int)) = ((256 * B : Nat) : Int) := by rw [IntKind.wrap_u32]; omega
      have q2 : IntKind.u32.wrap (((256 * B : Nat) : Int) + (y.toNat : Int)) = (B2 : Int) := by rw [IntKind.wrap_u32]; omega
      have q3 : IntKind.u32.wrap ((256 : Int) * (B : Int) + (y.toNat : Int)) = (B2 : Int) := by rw [IntKind.wrap_u32]; omega
      have HW := Lib.hid q1
      have HW2 := Lib.hid q2
      have HW3 := Lib.hid q3
      clear hB0 hB2 hbe hb1 hb2 hb4
      go_wp2_with fail
      go_round
      case rel =>
        exact ⟨k + 1, by omega, by go_num, by first | rw [HB2.out] | (rw [HW.out, HW2.out, HB2.out]) | (rw [HW3.out, HB2.out])⟩
      case measure => simp [intOf]; omega
    · obtain rfl : k = n := by omega
      have hd : decide ((k:Int) < (k : Int)) = false := by simp
      rw [List.take_of_length_le (by rw [HN.out]; omega)]
      go_wp2_with fail
      go_ret
      exact ⟨rfl, rfl⟩

theorem partN_set {N : Nat} {b : List UInt8} {k : Nat} (h : k < b.length) (hN : k < N) : (partN N b k).set k (b[k]'h) = partN N b (k + 1) := by
  unfold partN
  have hl : (b.take k).length = k := by rw [List.length_take]; omega
  rw [List.set_append_right _ _ (by omega), hl, Nat.sub_self, show N - k = (N - (k + 1)) + 1 by omega, List.replicate_succ, List.set_cons_zero, take_snoc b k h, List.append_assoc]; rfl
theorem partN_len {N : Nat} {b : List UInt8} {k : Nat} (h : k ≤ b.length) (hN : k ≤ N) : (partN N b k).length = N := by
  unfold partN; rw [List.length_append, List.length_take, List.length_replicate]; omega
theorem partN_full {N : Nat} {b : List UInt8} : partN N b N = b.take N := by unfold partN; simp
theorem bytesV_set (l : List UInt8) (i : Nat) (y : UInt8) : (bytesV l).set i (.int .u8 (y.toNat : Int)) = bytesV (l.set i y) := by simp [bytesV, List.map_set]
theorem rset_hint {r : RecD} (s : RS) (hh : r.hint.length = 16) (i : Nat) (hi : i < 16) (y : UInt8) : (recA r s).setIfInBounds (4 + i) (.int .u8 (y.toNat : Int)) = recA { r with hint := r.hint.set i y } s := by
  unfold recA recL
  rw [List.setIfInBounds_toArray]
  congr 1
  have hl := bytesV_length r.hint
  rw [List.set_append_right _ _ (by simp), List.set_append_left _ _ (by simp [hl, hh]; exact hi)]
  rw [show 4 + i - [Value.int .i64 r.kind, .int .u32 (r.ses : Int), .int .u32 (r.seq : Int), .int .u32 (r.quo : Int)].length = i by simp, bytesV_set]
  rfl
theorem rset_hash {r : RecD} (s : RS) (hw : r.wf) (i : Nat) (hi : i < 32) (y : UInt8) : (recA r s).setIfInBounds (21 + i) (.int .u8 (y.toNat : Int)) = recA { r with blk := ⟨r.blk.hash.set i y, r.blk.par, r.blk.txs⟩ } s := by
  apply Array.toList_inj.1
  rw [Array.toList_setIfInBounds]
  have h1 : (recA r s).toList = ([.int .i64 r.kind, .int .u32 (r.ses : Int), .int .u32 (r.seq : Int), .int .u32 (r.quo : Int)] ++ (bytesV r.hint ++ [.slice s.p r.blob.length s.c])) ++ (bytesV r.blk.hash ++ (bytesV r.blk.par ++ [Value.slice s.q r.blk.txs.length s.d])) := by simp [recA, recL, RecD.blkA, blkA_toList]
  have h2 : (recA { r with blk := ⟨r.blk.hash.set i y, r.blk.par, r.blk.txs⟩ } s).toList = ([.int .i64 r.kind, .int .u32 (r.ses : Int), .int .u32 (r.seq : Int), .int .u32 (r.quo : Int)] ++ (bytesV r.hint ++ [.slice s.p r.blob.length s.c])) ++ (bytesV (r.blk.hash.set i y) ++ (bytesV r.blk.par ++ [Value.slice s.q r.blk.txs.length s.d])) := by simp [recA, recL, RecD.blkA, blkA_toList]
  have hl : ([Value.int .i64 r.kind, .int .u32 (r.ses : Int), .int .u32 (r.seq : Int), .int .u32 (r.quo : Int)] ++ (bytesV r.hint ++ [Value.slice s.p r.blob.length s.c])).length = 21 := by simp [bytesV_length, hw.hint]
  rw [h1, h2, List.set_append_right _ _ (by rw [hl]; omega), hl, Nat.add_sub_cancel_left, List.set_append_left _ _ (by rw [bytesV_length, hw.blk.hlen]; exact hi), bytesV_set]
/-- the rows of the reference's Decode -/
structure QD (w : World) (r : RecD) (t : RS) (x : World) : Prop where
  r0 : x.heap[w.heap.size]? = some (.cells (recA RecD.zero RS.none) 42 (0, 0))
  r1 : x.heap[w.heap.size + 1]? = some (.cells (recA RecD.zero RS.none) 42 (0, 0))
  r2 : x.heap[w.heap.size + 2]? = some (.cells (recA r t) 42 (0, 0))
  low : Below w.heap.size w x
  wf : r.wf
theorem QD.below {w x y : World} {r : RecD} {t : RS} (h : QD w r t x) (hb : Below x.heap.size x y) : QD w r t y :=
  ⟨Below.keepOld hb h.r0, Below.keepOld hb h.r1, Below.keepOld hb h.r2, h.low.trans (hb.mono h.low.size), h.wf⟩
theorem QD.rw {w x : World} {r : RecD} {t : RS} (h : QD w r t x) : RW x (w.heap.size + 2) r t x := ⟨h.r2, h.wf, Turns.refl _ _⟩
theorem QD.put {w x y : World} {r r' : RecD} {t t' : RS} (h : QD w r t x) (hq : RW x (w.heap.size + 2) r' t' y) : QD w r' t' y :=
  ⟨hq.turn.keep h.r0 (by omega), hq.turn.keep h.r1 (by omega), hq.row, h.low.trans (hq.turn.below h.low.size (fun i hi => by omega)), hq.wf⟩
theorem QD.lt {w x : World} {r : RecD} {t : RS} (h : QD w r t x) : w.heap.size + 2 < x.heap.size := (Array.getElem?_eq_some_iff.1 h.r2).1
end Go.Proofs.YtdaigkcbmdcbcaaDoor.Rec

namespace Go.Proofs.YtdaigkcbmdcbcaaDoor.Rec
open Go.RowKit Go.Mir Go.Mir.Parts Wr Cod Blk

set_option maxRecDepth 100000 in
set_option maxHeartbeats 12800000 in
theorem rdecode_hash (p0 : Option Addr) (n0 c0 : Nat) (l : List UInt8) (w : World) (hB : Bs w p0 n0 c0 l) (hn : n0 ≤ 1099511627776) (K : Nat) (h6 : K = 6) (hcx : ∀ w', Below w.heap.size w w' → ∀ a, p0 = some a → w'.cell? a = some (.int .u8 (K : Int)))
    (hdc : decR l = (if l.length < 33 then (.zero, 2) else if 33 < l.length then (.zero, 3) else (r6 l, 0))) (Q : RecD × Int)
    (hbd : ∀ ev : Int, decR l = (RecD.zero, ev) → ∀ w', Below w.heap.size w w' → DecP Q.1 Q.2 w (.returned (.tuple #[.agg (recA RecD.zero RS.none), .int .i64 ev])) w')
    (hgd : ∀ r, decR l = (r, 0) → ∀ t w', RecAt w' r t → Below w.heap.size w w' → DecP Q.1 Q.2 w (.returned (.tuple #[.agg (recA r t), .int .i64 0])) w') (hn1 : 1 ≤ n0) :
    Calls Tryd.prog 25 #[.slice p0 n0 c0] w (DecP Q.1 Q.2 w) := by
  have hz := zeroR
  have HB := Lib.hid hB
  have hle := hB.le
  have hmax := hB.max
  have HN : Hid (l.length = n0) := hB.length
  have HBD := Lib.hid hbd
  have HGD := Lib.hid hgd
  have hd : decide ((n0 : Int) < (1 : Int)) = false := decide_eq_false (by omega)
  obtain ⟨b, o, rfl⟩ := hB.addr (by omega) (by omega)
  have HCB : Hid (∀ w', Below w.heap.size w w' → w'.cell? ⟨b, o, none⟩ = some (.int .u8 6)) := fun w' hb => by rw [hcx w' hb _ rfl, h6]; rfl
  have HKB : Hid (-9223372036854775808 ≤ (6 : Int) ∧ (6 : Int) ≤ 9223372036854775807) := by show _ ∧ _; omega
  rw [HN.out] at hdc
  clear hB hcx h6 hbd hgd
  by_cases hs : n0 < 33
  · have e3 : decide ((n0 : Int) < 33) = true := decide_eq_true (by omega)
    have e3b : decide (n0 < 33) = true := decide_eq_true hs
    have HF := Lib.hid (HBD.out 2 (by rw [hdc, if_pos hs]))
    clear hdc hs HGD HBD
    go_enter Tryd.func25, Tryd.ntmps25
    go_upto_region 1 with fail
    have hq0 : (w.alloc (.cells (recA RecD.zero RS.none) 42)).heap[w.heap.size]? = some (.cells (recA RecD.zero RS.none) 42 (0, 0)) ∧ (w.alloc (.cells (recA RecD.zero RS.none) 42)).heap.size = w.heap.size + 1 ∧ Below w.heap.size w (w.alloc (.cells (recA RecD.zero RS.none) 42)) := ⟨heap_alloc_last _ _, by simp, Below.allocs _ _⟩
    generalize w.alloc (.cells (recA RecD.zero RS.none) 42) = w1 at *
    have HQ0 := Lib.hid hq0
    clear hq0
    go_upto_region 2 with (first
      | refine Rdr.wpList_build rfl 42 _ rfl [] rfl _ build_r0 ?_
      | refine wpList_store_row rfl 42 _ _ rfl w1.heap.size (recA RecD.zero RS.none) rfl rfl 42 (recA RecD.zero RS.none) (heap_alloc_last _ _) (sizeR _ rfl) rfl (recA_one _ _) ?_)
    try simp only [Act.put, List.setIfInBounds_toArray, List.set_cons_zero, List.set_cons_succ]
    have hq1 : ((w1.alloc (.cells (recA RecD.zero RS.none) 42)).setRow w1.heap.size (recA RecD.zero RS.none)).heap[w1.heap.size]? = some (.cells (recA RecD.zero RS.none) 42 (0, 0)) ∧ Below w1.heap.size w1 ((w1.alloc (.cells (recA RecD.zero RS.none) 42)).setRow w1.heap.size (recA RecD.zero RS.none)) ∧ ((w1.alloc (.cells (recA RecD.zero RS.none) 42)).setRow w1.heap.size (recA RecD.zero RS.none)).heap.size = w.heap.size + 2 := ⟨setRow_heap _ _ _ _ _ _ (heap_alloc_last _ _), below_setRow (Below.allocs _ _) (Nat.le_refl _) _, by have := HQ0.out.2.1; simp [World.setRow]; omega⟩
    generalize (w1.alloc (.cells (recA RecD.zero RS.none) 42)).setRow w1.heap.size (recA RecD.zero RS.none) = w2 at *
    have hs1 := HQ0.out.2.1
    rw [hs1] at hq1 ⊢
    have HQ1 : Hid (w2.heap[w.heap.size]? = some (.cells (recA RecD.zero RS.none) 42 (0, 0)) ∧ w2.heap[w.heap.size + 1]? = some (.cells (recA RecD.zero RS.none) 42 (0, 0)) ∧ w2.heap.size = w.heap.size + 2 ∧ Below w.heap.size w w2) := ⟨Below.keepBlock hq1.2.1 HQ0.out.1 (by omega), hq1.1, hq1.2.2, HQ0.out.2.2.trans (hq1.2.1.mono (by omega))⟩
    clear hs1 hq1 HQ0
    have hcb := HCB.out _ HQ1.out.2.2.2
    go_upto_region 5 with (first
      | refine Rdr.wpList_build rfl 42 _ rfl [(0, .int .i64 6)] rfl _ (build_rk _) ?_
      | refine wpList_store_row rfl 42 _ _ rfl w2.heap.size (recA ⟨6, 0, 0, 0, z16, [], .zero⟩ RS.none) rfl rfl 42 (recA RecD.zero RS.none) (heap_alloc_last _ _) (sizeR _ rfl) rfl (recA_one _ _) ?_)
    try simp only [Act.put, List.setIfInBounds_toArray, List.set_cons_zero, List.set_cons_succ]
    have hq5 : ((w2.alloc (.cells (recA RecD.zero RS.none) 42)).setRow w2.heap.size (recA ⟨6, 0, 0, 0, z16, [], .zero⟩ RS.none)).heap[w2.heap.size]? = some (.cells (recA ⟨6, 0, 0, 0, z16, [], .zero⟩ RS.none) 42 (0, 0)) ∧ Below w2.heap.size w2 ((w2.alloc (.cells (recA RecD.zero RS.none) 42)).setRow w2.heap.size (recA ⟨6, 0, 0, 0, z16, [], .zero⟩ RS.none)) ∧ ((w2.alloc (.cells (recA RecD.zero RS.none) 42)).setRow w2.heap.size (recA ⟨6, 0, 0, 0, z16, [], .zero⟩ RS.none)).heap.size = w.heap.size + 3 := ⟨setRow_heap _ _ _ _ _ _ (heap_alloc_last _ _), below_setRow (Below.allocs _ _) (Nat.le_refl _) _, by have := HQ1.out.2.2.1; simp [World.setRow]; omega⟩
    generalize (w2.alloc (.cells (recA RecD.zero RS.none) 42)).setRow w2.heap.size (recA ⟨6, 0, 0, 0, z16, [], .zero⟩ RS.none) = x0 at *
    have hs2 := HQ1.out.2.2.1
    rw [hs2] at hq5 ⊢
    have HD : Hid (QD w ⟨6, 0, 0, 0, z16, [], .zero⟩ RS.none x0) := ⟨Below.keepBlock hq5.2.1 HQ1.out.1 (by omega), Below.keepBlock hq5.2.1 HQ1.out.2.1 (by omega), hq5.1, HQ1.out.2.2.2.trans (hq5.2.1.mono (by have := HQ1.out.2.2.1; omega)), kind_wf HKB.out⟩
    have HX3 : Hid (x0.heap.size = w.heap.size + 3) := hq5.2.2
    clear hcb hs2 hq5 HQ1
    obtain ⟨a0, a1, a2, a3, a20, -, -, -, fz⟩ := HD.out.rw.cells
    go_upto_region 12 with fail
    have hrs := heap_alloc_last x0 (.cells #[.int .i64 0, .int .i64 6, .int .i64 25, .int .i64 0, .int .i64 5, .int .i64 0, .int .i64 33] 3)
    have hd1 := HD.out.below (Below.allocs x0 (.cells #[.int .i64 0, .int .i64 6, .int .i64 25, .int .i64 0, .int .i64 5, .int .i64 0, .int .i64 33] 3))
    rw [HX3.out] at hrs ⊢
    generalize x0.alloc (.cells #[.int .i64 0, .int .i64 6, .int .i64 25, .int .i64 0, .int .i64 5, .int .i64 0, .int .i64 33] 3) = x1 at *
    have z0 : x1.cell? ⟨w.heap.size + 3, 0, none⟩ = some (.int .i64 0) := by rw [cell_of_row _ _ _ _ _ _ hrs]; rfl
    have z1 : x1.cell? ⟨w.heap.size + 3, 1, none⟩ = some (.int .i64 6) := by rw [cell_of_row _ _ _ _ _ _ hrs]; rfl
    have z2 : x1.cell? ⟨w.heap.size + 3, 2, none⟩ = some (.int .i64 25) := by rw [cell_of_row _ _ _ _ _ _ hrs]; rfl
    have z3 : x1.cell? ⟨w.heap.size + 3, 3, none⟩ = some (.int .i64 0) := by rw [cell_of_row _ _ _ _ _ _ hrs]; rfl
    have z4 : x1.cell? ⟨w.heap.size + 3, 4, none⟩ = some (.int .i64 5) := by rw [cell_of_row _ _ _ _ _ _ hrs]; rfl
    have z6 : x1.cell? ⟨w.heap.size + 3, 6, none⟩ = some (.int .i64 33) := by rw [cell_of_row _ _ _ _ _ _ hrs]; rfl
    clear HD HX3 hrs a0 a1 a2 a3 a20 fz
    have HD := Lib.hid hd1
    clear hd1
    obtain ⟨a0, a1, a2, a3, a20, -, -, -, fz⟩ := HD.out.rw.cells
    go_wp2_with (first
      | refine wpList_load_row rfl 42 _ rfl (w.heap.size + 1) rfl 42 (recA RecD.zero RS.none) (0, 0) _ (HD.out.r1) Tryd.underlying42 rfl (sizeR _ rfl) ?_
      | refine wpList_store_row rfl 42 _ _ rfl w.heap.size (recA RecD.zero RS.none) rfl rfl 42 (recA RecD.zero RS.none) (HD.out.r0) (sizeR _ rfl) rfl (recA_one _ _) ?_)
    have HS := Lib.hid (setRow_heap _ _ _ (recA RecD.zero RS.none) _ _ (HD.out.r0))
    refine bodyPost_ret (Blk.results_cell_tmp2 rfl _ _ _ _ _ _ _ rfl HS.out Tryd.underlying42 rfl (sizeR _ rfl)) rfl ?_
    exact HF.out _ (below_setRow (HD.out.low) (Nat.le_refl _) _)
  have e3 : decide ((n0 : Int) < 33) = false := decide_eq_false (by omega)
  have e3b : decide (n0 < 33) = false := decide_eq_false hs
  rw [if_neg hs] at hdc
  have HDC := Lib.hid hdc
  have HL1 : Hid (32 ≤ (l.drop 1).length) := by show _ ≤ _; rw [List.length_drop, HN.out]; omega
  clear hdc
  go_enter Tryd.func25, Tryd.ntmps25
  go_upto_region 1 with fail
  have hq0 : (w.alloc (.cells (recA RecD.zero RS.none) 42)).heap[w.heap.size]? = some (.cells (recA RecD.zero RS.none) 42 (0, 0)) ∧ (w.alloc (.cells (recA RecD.zero RS.none) 42)).heap.size = w.heap.size + 1 ∧ Below w.heap.size w (w.alloc (.cells (recA RecD.zero RS.none) 42)) := ⟨heap_alloc_last _ _, by simp, Below.allocs _ _⟩
  generalize w.alloc (.cells (recA RecD.zero RS.none) 42) = w1 at *
  have HQ0 := Lib.hid hq0
  clear hq0
  go_upto_region 2 with (first
    | refine Rdr.wpList_build rfl 42 _ rfl [] rfl _ build_r0 ?_
    | refine wpList_store_row rfl 42 _ _ rfl w1.heap.size (recA RecD.zero RS.none) rfl rfl 42 (recA RecD.zero RS.none) (heap_alloc_last _ _) (sizeR _ rfl) rfl (recA_one _ _) ?_)
  try simp only [Act.put, List.setIfInBounds_toArray, List.set_cons_zero, List.set_cons_succ]
  have hq1 : ((w1.alloc (.cells (recA RecD.zero RS.none) 42)).setRow w1.heap.size (recA RecD.zero RS.none)).heap[w1.heap.size]? = some (.cells (recA RecD.zero RS.none) 42 (0, 0)) ∧ Below w1.heap.size w1 ((w1.alloc (.cells (recA RecD.zero RS.none) 42)).setRow w1.heap.size (recA RecD.zero RS.none)) ∧ ((w1.alloc (.cells (recA RecD.zero RS.none) 42)).setRow w1.heap.size (recA RecD.zero RS.none)).heap.size = w.heap.size + 2 := ⟨setRow_heap _ _ _ _ _ _ (heap_alloc_last _ _), below_setRow (Below.allocs _ _) (Nat.le_refl _) _, by have := HQ0.out.2.1; simp [World.setRow]; omega⟩
  generalize (w1.alloc (.cells (recA RecD.zero RS.none) 42)).setRow w1.heap.size (recA RecD.zero RS.none) = w2 at *
  have hs1 := HQ0.out.2.1
  rw [hs1] at hq1 ⊢
  have HQ1 : Hid (w2.heap[w.heap.size]? = some (.cells (recA RecD.zero RS.none) 42 (0, 0)) ∧ w2.heap[w.heap.size + 1]? = some (.cells (recA RecD.zero RS.none) 42 (0, 0)) ∧ w2.heap.size = w.heap.size + 2 ∧ Below w.heap.size w w2) := ⟨Below.keepBlock hq1.2.1 HQ0.out.1 (by omega), hq1.1, hq1.2.2, HQ0.out.2.2.trans (hq1.2.1.mono (by omega))⟩
  clear hs1 hq1 HQ0
  have hcb := HCB.out _ HQ1.out.2.2.2
  go_upto_region 5 with (first
    | refine Rdr.wpList_build rfl 42 _ rfl [(0, .int .i64 6)] rfl _ (build_rk _) ?_
    | refine wpList_store_row rfl 42 _ _ rfl w2.heap.size (recA ⟨6, 0, 0, 0, z16, [], .zero⟩ RS.none) rfl rfl 42 (recA RecD.zero RS.none) (heap_alloc_last _ _) (sizeR _ rfl) rfl (recA_one _ _) ?_)
  try simp only [Act.put, List.setIfInBounds_toArray, List.set_cons_zero, List.set_cons_succ]
  have hq5 : ((w2.alloc (.cells (recA RecD.zero RS.none) 42)).setRow w2.heap.size (recA ⟨6, 0, 0, 0, z16, [], .zero⟩ RS.none)).heap[w2.heap.size]? = some (.cells (recA ⟨6, 0, 0, 0, z16, [], .zero⟩ RS.none) 42 (0, 0)) ∧ Below w2.heap.size w2 ((w2.alloc (.cells (recA RecD.zero RS.none) 42)).setRow w2.heap.size (recA ⟨6, 0, 0, 0, z16, [], .zero⟩ RS.none)) ∧ ((w2.alloc (.cells (recA RecD.zero RS.none) 42)).setRow w2.heap.size (recA ⟨6, 0, 0, 0, z16, [], .zero⟩ RS.none)).heap.size = w.heap.size + 3 := ⟨setRow_heap _ _ _ _ _ _ (heap_alloc_last _ _), below_setRow (Below.allocs _ _) (Nat.le_refl _) _, by have := HQ1.out.2.2.1; simp [World.setRow]; omega⟩
  generalize (w2.alloc (.cells (recA RecD.zero RS.none) 42)).setRow w2.heap.size (recA ⟨6, 0, 0, 0, z16, [], .zero⟩ RS.none) = x0 at *
  have hs2 := HQ1.out.2.2.1
  rw [hs2] at hq5 ⊢
  have HD : Hid (QD w ⟨6, 0, 0, 0, z16, [], .zero⟩ RS.none x0) := ⟨Below.keepBlock hq5.2.1 HQ1.out.1 (by omega), Below.keepBlock hq5.2.1 HQ1.out.2.1 (by omega), hq5.1, HQ1.out.2.2.2.trans (hq5.2.1.mono (by have := HQ1.out.2.2.1; omega)), kind_wf HKB.out⟩
  have HX3 : Hid (x0.heap.size = w.heap.size + 3) := hq5.2.2
  clear hcb hs2 hq5 HQ1
  obtain ⟨a0, a1, a2, a3, a20, -, -, -, fz⟩ := HD.out.rw.cells
  go_upto_region 12 with fail
  have hrs := heap_alloc_last x0 (.cells #[.int .i64 0, .int .i64 6, .int .i64 25, .int .i64 0, .int .i64 5, .int .i64 0, .int .i64 33] 3)
  have hd1 := HD.out.below (Below.allocs x0 (.cells #[.int .i64 0, .int .i64 6, .int .i64 25, .int .i64 0, .int .i64 5, .int .i64 0, .int .i64 33] 3))
  rw [HX3.out] at hrs ⊢
  generalize x0.alloc (.cells #[.int .i64 0, .int .i64 6, .int .i64 25, .int .i64 0, .int .i64 5, .int .i64 0, .int .i64 33] 3) = x1 at *
  have z0 : x1.cell? ⟨w.heap.size + 3, 0, none⟩ = some (.int .i64 0) := by rw [cell_of_row _ _ _ _ _ _ hrs]; rfl
  have z1 : x1.cell? ⟨w.heap.size + 3, 1, none⟩ = some (.int .i64 6) := by rw [cell_of_row _ _ _ _ _ _ hrs]; rfl
  have z2 : x1.cell? ⟨w.heap.size + 3, 2, none⟩ = some (.int .i64 25) := by rw [cell_of_row _ _ _ _ _ _ hrs]; rfl
  have z3 : x1.cell? ⟨w.heap.size + 3, 3, none⟩ = some (.int .i64 0) := by rw [cell_of_row _ _ _ _ _ _ hrs]; rfl
  have z4 : x1.cell? ⟨w.heap.size + 3, 4, none⟩ = some (.int .i64 5) := by rw [cell_of_row _ _ _ _ _ _ hrs]; rfl
  have z6 : x1.cell? ⟨w.heap.size + 3, 6, none⟩ = some (.int .i64 33) := by rw [cell_of_row _ _ _ _ _ _ hrs]; rfl
  clear HD HX3 hrs a0 a1 a2 a3 a20 fz
  have HD := Lib.hid hd1
  clear hd1
  obtain ⟨a0, a1, a2, a3, a20, -, -, -, fz⟩ := HD.out.rw.cells
  go_wp2_with fail
  clear z0 z1 z2 z3 z4 z6 a0 a1 a2 a3 a20 fz
  have hst : QD w ⟨6, 0, 0, 0, z16, [], ⟨partN 32 (l.drop 1) 0, zeros, []⟩⟩ RS.none x1 := by
    have hp0 : partN 32 (l.drop 1) 0 = zeros := by unfold partN; rw [List.take_zero, List.nil_append]; rfl
    rw [hp0]
    exact HD.out
  clear HD
  have HST := Lib.hid hst
  clear hst
  go_loopw [10] (fun vj wr => ∃ j : Nat, j ≤ 32 ∧ vj = .int .i64 j ∧ QD w ⟨6, 0, 0, 0, z16, [], ⟨partN 32 (l.drop 1) j, zeros, []⟩⟩ RS.none wr) (fun vj _ => 32 - (intOf vj).toNat)
  case atStart => exact ⟨0, by omega, rfl, HST.out⟩
  case round =>
    clear HST
    obtain ⟨j, hj, rfl, hqd⟩ := hrel
    have HD := Lib.hid hqd
    clear hqd
    by_cases hlj : j < 32
    · have hdj : decide ((j : Int) < (32 : Int)) = true := decide_eq_true (by omega)
      have hdj2 : decide (j < 32) = true := decide_eq_true hlj
      have hin : 1 + j < l.length := by rw [HN.out]; omega
      have hin2 : j < (l.drop 1).length := by have := HL1.out; omega
      have hc' := Bs.byte (HB.out.below HD.out.low) hin
      have hge : l[1 + j]'hin = (l.drop 1)[j]'hin2 := by rw [List.getElem_drop]
      rw [hge] at hc'
      have hpn := partN_set hin2 hlj
      have hrw := HD.out.rw.set (21 + j) (.int .u8 (((l.drop 1)[j]'hin2).toNat : Int)) (rset_hash RS.none HD.out.wf j hlj ((l.drop 1)[j]'hin2)) (by
        dsimp only
        rw [hpn]
        exact mk_wf (by decide) (by decide) (by decide) (by decide) rfl ⟨partN_len (by omega) (by omega), rfl, fun x hx => (nomatch hx)⟩)
      dsimp only at hrw
      rw [hpn] at hrw
      have HQ2 := Lib.hid (HD.out.put hrw)
      obtain ⟨yo, hcx⟩ : ∃ yo, wr.cell? ⟨w.heap.size + 2, 21 + j, none⟩ = some yo := by
        rw [cell_of_row _ _ _ _ _ _ HD.out.r2, Array.getElem?_eq_getElem (by rw [recA_size HD.out.wf]; omega)]
        exact ⟨_, rfl⟩
      have hfx : wr.frozen? ⟨w.heap.size + 2, 21 + j, none⟩ = false := frozen_of_row _ _ _ _ _ HD.out.r2
      have hwx : IntKind.i64.wrap ((1 : Int) + (j : Int)) = ((1 + j : Nat) : Int) := by
        rw [IntWalk.i64_in _ (by omega)]
        omega
      have hinn : 1 + j < n0 := by have := HN.out; omega
      obtain ⟨ix, hix⟩ : ∃ ix, 1 + j = ix := ⟨_, rfl⟩
      rw [hix] at hc' hwx hinn
      generalize (l.drop 1)[j]'hin2 = y at *
      clear hin hin2 hrw hix hpn hge
      go_wp2_with fail
      go_roundw
      case rel => exact ⟨j + 1, by omega, by go_num, HQ2.out⟩
      case measure => simp [intOf]; omega
    · obtain rfl : j = 32 := by omega
      have hdj : decide ((32 : Int) < (32 : Int)) = false := by decide
      rw [partN_full] at HD
      obtain ⟨a0, a1, a2, a3, a20, -, -, -, fz⟩ := HD.out.rw.cells
      clear hlj
      by_cases hg : 33 < n0
      · have e4 : decide ((33 : Int) < (n0 : Int)) = true := decide_eq_true (by omega)
        have e4b : decide (33 < n0) = true := decide_eq_true hg
        have HF := Lib.hid (HBD.out 3 (by rw [HDC.out, if_pos hg]))
        clear hg HDC HGD HBD
        skip
        go_wp2_with (first
          | refine wpList_load_row rfl 42 _ rfl (w.heap.size + 1) rfl 42 (recA RecD.zero RS.none) (0, 0) _ (HD.out.r1) Tryd.underlying42 rfl (sizeR _ rfl) ?_
          | refine wpList_store_row rfl 42 _ _ rfl w.heap.size (recA RecD.zero RS.none) rfl rfl 42 (recA RecD.zero RS.none) (HD.out.r0) (sizeR _ rfl) rfl (recA_one _ _) ?_)
        have HS := Lib.hid (setRow_heap _ _ _ (recA RecD.zero RS.none) _ _ (HD.out.r0))
        refine bodyPost_ret (Blk.results_cell_tmp2 rfl _ _ _ _ _ _ _ rfl HS.out Tryd.underlying42 rfl (sizeR _ rfl)) rfl ?_
        exact HF.out _ (below_setRow (HD.out.low) (Nat.le_refl _) _)
      have e4 : decide ((33 : Int) < (n0 : Int)) = false := decide_eq_false (by omega)
      have e4b : decide (33 < n0) = false := decide_eq_false hg
      have hdc := HDC.out
      rw [if_neg hg] at hdc
      unfold r6 at hdc
      have HFO := Lib.hid (HGD.out _ hdc)
      clear hdc HGD HBD hg HDC
      obtain ⟨R6, hR6⟩ : ∃ R6 : RecD, R6 = ⟨6, 0, 0, 0, z16, [], ⟨(l.drop 1).take 32, zeros, []⟩⟩ := ⟨_, rfl⟩
      have HRT : Hid (R6.right = true) := by show _ = _; rw [hR6]; exact right6t
      have HAT : Hid (∀ x, RecAt x R6 RS.none) := fun x => by
        have hw := HD.out.wf
        rw [hR6]
        exact ⟨hw, Sl.nil _ _, Is.nil _ _⟩
      rw [← hR6] at HD HFO
      have k0 : wr.cell? ⟨w.heap.size + 2, 0, none⟩ = some (.int .i64 6) := a0
      clear hR6 a0 a1 a2 a3 a20 fz
      have HRX := Lib.hid (rright_any R6 RS.none wr (HAT.out _))
      go_wp2_with (refine wpList_load_row rfl 42 _ rfl (w.heap.size + 2) rfl 42 (recA R6 RS.none) (0, 0) _ HD.out.r2 Tryd.underlying42 rfl (sizeR _ (recA_size HD.out.wf _)) ?_)
      refine HRX.out.mono ?_
      rintro e xr ⟨rfl, hbr⟩
      rw [HRT.out]
      have hdr := HD.out.below hbr
      clear HD hbr HRX k0
      have HD := Lib.hid hdr
      clear hdr
      go_wp2_with (first
        | refine wpList_load_row rfl 42 _ rfl (w.heap.size + 2) rfl 42 (recA R6 RS.none) (0, 0) _ HD.out.r2 Tryd.underlying42 rfl (sizeR _ (recA_size HD.out.wf _)) ?_
        | refine wpList_store_row rfl 42 _ _ rfl w.heap.size (recA R6 RS.none) rfl rfl 42 (recA RecD.zero RS.none) HD.out.r0 (sizeR _ (recA_size HD.out.wf _)) (by rw [recA_size HD.out.wf]; rfl) (recA_one _ _) ?_)
      have HS := Lib.hid (setRow_heap _ _ _ (recA R6 RS.none) _ _ HD.out.r0)
      refine bodyPost_ret (Blk.results_cell_tmp2 rfl _ _ _ _ _ _ _ rfl HS.out Tryd.underlying42 rfl (sizeR _ (recA_size HD.out.wf _))) rfl ?_
      exact HFO.out _ _ (HAT.out _) (below_setRow HD.out.low (Nat.le_refl _) _)
end Go.Proofs.YtdaigkcbmdcbcaaDoor.Rec

namespace Go.Proofs.YtdaigkcbmdcbcaaDoor.Rec
open Go.RowKit Go.Mir Go.Mir.Parts Wr Cod Blk

theorem ses2_lt {l : List UInt8} {k : Nat} : Rdr.beN ((l.drop k).take 4) < 4294967296 := by
  have h1 := Rdr.beN_lt_pow ((l.drop k).take 4)
  have h2 : 256 ^ ((l.drop k).take 4).length ≤ 256 ^ 4 := Nat.pow_le_pow_right (by omega) (by rw [List.length_take]; omega)
  have h4 : (256 : Nat) ^ 4 = 4294967296 := by decide
  omega
set_option maxRecDepth 100000 in
set_option maxHeartbeats 12800000 in
theorem rdecode_add (p0 : Option Addr) (n0 c0 : Nat) (l : List UInt8) (w : World) (hB : Bs w p0 n0 c0 l) (hn : n0 ≤ 1099511627776) (K : Nat) (h6 : K = 2) (hcx : ∀ w', Below w.heap.size w w' → ∀ a, p0 = some a → w'.cell? a = some (.int .u8 (K : Int)))
    (hdc : decR l = (if l.length < 25 then (.zero, 2) else if 600 < l.length - 25 then (.zero, 3) else (r2 l, 0))) (Q : RecD × Int)
    (hbd : ∀ ev : Int, decR l = (RecD.zero, ev) → ∀ w', Below w.heap.size w w' → DecP Q.1 Q.2 w (.returned (.tuple #[.agg (recA RecD.zero RS.none), .int .i64 ev])) w')
    (hgd : ∀ r, decR l = (r, 0) → ∀ t w', RecAt w' r t → Below w.heap.size w w' → DecP Q.1 Q.2 w (.returned (.tuple #[.agg (recA r t), .int .i64 0])) w') (hn1 : 1 ≤ n0) :
    Calls Tryd.prog 25 #[.slice p0 n0 c0] w (DecP Q.1 Q.2 w) := by
  have hz := zeroR
  have HB := Lib.hid hB
  have hle := hB.le
  have hmax := hB.max
  have HN : Hid (l.length = n0) := hB.length
  have HBD := Lib.hid hbd
  have HGD := Lib.hid hgd
  have hd : decide ((n0 : Int) < (1 : Int)) = false := decide_eq_false (by omega)
  obtain ⟨b, o, rfl⟩ := hB.addr (by omega) (by omega)
  have HCB : Hid (∀ w', Below w.heap.size w w' → w'.cell? ⟨b, o, none⟩ = some (.int .u8 2)) := fun w' hb => by rw [hcx w' hb _ rfl, h6]; rfl
  have HKB : Hid (-9223372036854775808 ≤ (2 : Int) ∧ (2 : Int) ≤ 9223372036854775807) := by show _ ∧ _; omega
  rw [HN.out] at hdc
  clear hB hcx h6 hbd hgd
  by_cases hs : n0 < 25
  · have e3 : decide ((n0 : Int) < 25) = true := decide_eq_true (by omega)
    have e3b : decide (n0 < 25) = true := decide_eq_true hs
    have HF := Lib.hid (HBD.out 2 (by rw [hdc, if_pos hs]))
    clear hdc hs HGD HBD
    go_enter Tryd.func25, Tryd.ntmps25
    go_upto_region 1 with fail
    have hq0 : (w.alloc (.cells (recA RecD.zero RS.none) 42)).heap[w.heap.size]? = some (.cells (recA RecD.zero RS.none) 42 (0, 0)) ∧ (w.alloc (.cells (recA RecD.zero RS.none) 42)).heap.size = w.heap.size + 1 ∧ Below w.heap.size w (w.alloc (.cells (recA RecD.zero RS.none) 42)) := ⟨heap_alloc_last _ _, by simp, Below.allocs _ _⟩
    generalize w.alloc (.cells (recA RecD.zero RS.none) 42) = w1 at *
    have HQ0 := Lib.hid hq0
    clear hq0
    go_upto_region 2 with (first
      | refine Rdr.wpList_build rfl 42 _ rfl [] rfl _ build_r0 ?_
      | refine wpList_store_row rfl 42 _ _ rfl w1.heap.size (recA RecD.zero RS.none) rfl rfl 42 (recA RecD.zero RS.none) (heap_alloc_last _ _) (sizeR _ rfl) rfl (recA_one _ _) ?_)
    try simp only [Act.put, List.setIfInBounds_toArray, List.set_cons_zero, List.set_cons_succ]
    have hq1 : ((w1.alloc (.cells (recA RecD.zero RS.none) 42)).setRow w1.heap.size (recA RecD.zero RS.none)).heap[w1.heap.size]? = some (.cells (recA RecD.zero RS.none) 42 (0, 0)) ∧ Below w1.heap.size w1 ((w1.alloc (.cells (recA RecD.zero RS.none) 42)).setRow w1.heap.size (recA RecD.zero RS.none)) ∧ ((w1.alloc (.cells (recA RecD.zero RS.none) 42)).setRow w1.heap.size (recA RecD.zero RS.none)).heap.size = w.heap.size + 2 := ⟨setRow_heap _ _ _ _ _ _ (heap_alloc_last _ _), below_setRow (Below.allocs _ _) (Nat.le_refl _) _, by have := HQ0.out.2.1; simp [World.setRow]; omega⟩
    generalize (w1.alloc (.cells (recA RecD.zero RS.none) 42)).setRow w1.heap.size (recA RecD.zero RS.none) = w2 at *
    have hs1 := HQ0.out.2.1
    rw [hs1] at hq1 ⊢
    have HQ1 : Hid (w2.heap[w.heap.size]? = some (.cells (recA RecD.zero RS.none) 42 (0, 0)) ∧ w2.heap[w.heap.size + 1]? = some (.cells (recA RecD.zero RS.none) 42 (0, 0)) ∧ w2.heap.size = w.heap.size + 2 ∧ Below w.heap.size w w2) := ⟨Below.keepBlock hq1.2.1 HQ0.out.1 (by omega), hq1.1, hq1.2.2, HQ0.out.2.2.trans (hq1.2.1.mono (by omega))⟩
    clear hs1 hq1 HQ0
    have hcb := HCB.out _ HQ1.out.2.2.2
    go_upto_region 5 with (first
      | refine Rdr.wpList_build rfl 42 _ rfl [(0, .int .i64 2)] rfl _ (build_rk _) ?_
      | refine wpList_store_row rfl 42 _ _ rfl w2.heap.size (recA ⟨2, 0, 0, 0, z16, [], .zero⟩ RS.none) rfl rfl 42 (recA RecD.zero RS.none) (heap_alloc_last _ _) (sizeR _ rfl) rfl (recA_one _ _) ?_)
    try simp only [Act.put, List.setIfInBounds_toArray, List.set_cons_zero, List.set_cons_succ]
    have hq5 : ((w2.alloc (.cells (recA RecD.zero RS.none) 42)).setRow w2.heap.size (recA ⟨2, 0, 0, 0, z16, [], .zero⟩ RS.none)).heap[w2.heap.size]? = some (.cells (recA ⟨2, 0, 0, 0, z16, [], .zero⟩ RS.none) 42 (0, 0)) ∧ Below w2.heap.size w2 ((w2.alloc (.cells (recA RecD.zero RS.none) 42)).setRow w2.heap.size (recA ⟨2, 0, 0, 0, z16, [], .zero⟩ RS.none)) ∧ ((w2.alloc (.cells (recA RecD.zero RS.none) 42)).setRow w2.heap.size (recA ⟨2, 0, 0, 0, z16, [], .zero⟩ RS.none)).heap.size = w.heap.size + 3 := ⟨setRow_heap _ _ _ _ _ _ (heap_alloc_last _ _), below_setRow (Below.allocs _ _) (Nat.le_refl _) _, by have := HQ1.out.2.2.1; simp [World.setRow]; omega⟩
    generalize (w2.alloc (.cells (recA RecD.zero RS.none) 42)).setRow w2.heap.size (recA ⟨2, 0, 0, 0, z16, [], .zero⟩ RS.none) = x0 at *
    have hs2 := HQ1.out.2.2.1
    rw [hs2] at hq5 ⊢
    have HD : Hid (QD w ⟨2, 0, 0, 0, z16, [], .zero⟩ RS.none x0) := ⟨Below.keepBlock hq5.2.1 HQ1.out.1 (by omega), Below.keepBlock hq5.2.1 HQ1.out.2.1 (by omega), hq5.1, HQ1.out.2.2.2.trans (hq5.2.1.mono (by have := HQ1.out.2.2.1; omega)), kind_wf HKB.out⟩
    have HX3 : Hid (x0.heap.size = w.heap.size + 3) := hq5.2.2
    clear hcb hs2 hq5 HQ1
    obtain ⟨a0, a1, a2, a3, a20, -, -, -, fz⟩ := HD.out.rw.cells
    go_upto_region 12 with fail
    have hrs := heap_alloc_last x0 (.cells #[.int .i64 0, .int .i64 6, .int .i64 25, .int .i64 0, .int .i64 5, .int .i64 0, .int .i64 33] 3)
    have hd1 := HD.out.below (Below.allocs x0 (.cells #[.int .i64 0, .int .i64 6, .int .i64 25, .int .i64 0, .int .i64 5, .int .i64 0, .int .i64 33] 3))
    rw [HX3.out] at hrs ⊢
    generalize x0.alloc (.cells #[.int .i64 0, .int .i64 6, .int .i64 25, .int .i64 0, .int .i64 5, .int .i64 0, .int .i64 33] 3) = x1 at *
    have z0 : x1.cell? ⟨w.heap.size + 3, 0, none⟩ = some (.int .i64 0) := by rw [cell_of_row _ _ _ _ _ _ hrs]; rfl
    have z1 : x1.cell? ⟨w.heap.size + 3, 1, none⟩ = some (.int .i64 6) := by rw [cell_of_row _ _ _ _ _ _ hrs]; rfl
    have z2 : x1.cell? ⟨w.heap.size + 3, 2, none⟩ = some (.int .i64 25) := by rw [cell_of_row _ _ _ _ _ _ hrs]; rfl
    have z3 : x1.cell? ⟨w.heap.size + 3, 3, none⟩ = some (.int .i64 0) := by rw [cell_of_row _ _ _ _ _ _ hrs]; rfl
    have z4 : x1.cell? ⟨w.heap.size + 3, 4, none⟩ = some (.int .i64 5) := by rw [cell_of_row _ _ _ _ _ _ hrs]; rfl
    have z6 : x1.cell? ⟨w.heap.size + 3, 6, none⟩ = some (.int .i64 33) := by rw [cell_of_row _ _ _ _ _ _ hrs]; rfl
    clear HD HX3 hrs a0 a1 a2 a3 a20 fz
    have HD := Lib.hid hd1
    clear hd1
    obtain ⟨a0, a1, a2, a3, a20, -, -, -, fz⟩ := HD.out.rw.cells
    go_wp2_with (first
      | refine wpList_load_row rfl 42 _ rfl (w.heap.size + 1) rfl 42 (recA RecD.zero RS.none) (0, 0) _ (HD.out.r1) Tryd.underlying42 rfl (sizeR _ rfl) ?_
      | refine wpList_store_row rfl 42 _ _ rfl w.heap.size (recA RecD.zero RS.none) rfl rfl 42 (recA RecD.zero RS.none) (HD.out.r0) (sizeR _ rfl) rfl (recA_one _ _) ?_)
    have HS := Lib.hid (setRow_heap _ _ _ (recA RecD.zero RS.none) _ _ (HD.out.r0))
    refine bodyPost_ret (Blk.results_cell_tmp2 rfl _ _ _ _ _ _ _ rfl HS.out Tryd.underlying42 rfl (sizeR _ rfl)) rfl ?_
    exact HF.out _ (below_setRow (HD.out.low) (Nat.le_refl _) _)
  have e3 : decide ((n0 : Int) < 25) = false := decide_eq_false (by omega)
  have e3b : decide (n0 < 25) = false := decide_eq_false hs
  rw [if_neg hs] at hdc
  have HR2 : Hid (r2 l = ⟨2, Rdr.beN ((l.drop 1).take 4), Rdr.beN ((l.drop 5).take 4), 0, (l.drop 9).take 16, l.drop 25, .zero⟩) := rfl
  have HV1 : Hid (Rdr.beN ((l.drop 1).take 4) < 4294967296) := ses2_lt
  have HV2 : Hid (Rdr.beN ((l.drop 5).take 4) < 4294967296) := ses2_lt
  have HDC := Lib.hid hdc
  have HL9 : Hid (16 ≤ (l.drop 9).length) := by show _ ≤ _; rw [List.length_drop, HN.out]; omega
  clear hdc
  go_enter Tryd.func25, Tryd.ntmps25
  go_upto_region 1 with fail
  have hq0 : (w.alloc (.cells (recA RecD.zero RS.none) 42)).heap[w.heap.size]? = some (.cells (recA RecD.zero RS.none) 42 (0, 0)) ∧ (w.alloc (.cells (recA RecD.zero RS.none) 42)).heap.size = w.heap.size + 1 ∧ Below w.heap.size w (w.alloc (.cells (recA RecD.zero RS.none) 42)) := ⟨heap_alloc_last _ _, by simp, Below.allocs _ _⟩
  generalize w.alloc (.cells (recA RecD.zero RS.none) 42) = w1 at *
  have HQ0 := Lib.hid hq0
  clear hq0
  go_upto_region 2 with (first
    | refine Rdr.wpList_build rfl 42 _ rfl [] rfl _ build_r0 ?_
    | refine wpList_store_row rfl 42 _ _ rfl w1.heap.size (recA RecD.zero RS.none) rfl rfl 42 (recA RecD.zero RS.none) (heap_alloc_last _ _) (sizeR _ rfl) rfl (recA_one _ _) ?_)
  try simp only [Act.put, List.setIfInBounds_toArray, List.set_cons_zero, List.set_cons_succ]
  have hq1 : ((w1.alloc (.cells (recA RecD.zero RS.none) 42)).setRow w1.heap.size (recA RecD.zero RS.none)).heap[w1.heap.size]? = some (.cells (recA RecD.zero RS.none) 42 (0, 0)) ∧ Below w1.heap.size w1 ((w1.alloc (.cells (recA RecD.zero RS.none) 42)).setRow w1.heap.size (recA RecD.zero RS.none)) ∧ ((w1.alloc (.cells (recA RecD.zero RS.none) 42)).setRow w1.heap.size (recA RecD.zero RS.none)).heap.size = w.heap.size + 2 := ⟨setRow_heap _ _ _ _ _ _ (heap_alloc_last _ _), below_setRow (Below.allocs _ _) (Nat.le_refl _) _, by have := HQ0.out.2.1; simp [World.setRow]; omega⟩
  generalize (w1.alloc (.cells (recA RecD.zero RS.none) 42)).setRow w1.heap.size (recA RecD.zero RS.none) = w2 at *
  have hs1 := HQ0.out.2.1
  rw [hs1] at hq1 ⊢
  have HQ1 : Hid (w2.heap[w.heap.size]? = some (.cells (recA RecD.zero RS.none) 42 (0, 0)) ∧ w2.heap[w.heap.size + 1]? = some (.cells (recA RecD.zero RS.none) 42 (0, 0)) ∧ w2.heap.size = w.heap.size + 2 ∧ Below w.heap.size w w2) := ⟨Below.keepBlock hq1.2.1 HQ0.out.1 (by omega), hq1.1, hq1.2.2, HQ0.out.2.2.trans (hq1.2.1.mono (by omega))⟩
  clear hs1 hq1 HQ0
  have hcb := HCB.out _ HQ1.out.2.2.2
  go_upto_region 5 with (first
    | refine Rdr.wpList_build rfl 42 _ rfl [(0, .int .i64 2)] rfl _ (build_rk _) ?_
    | refine wpList_store_row rfl 42 _ _ rfl w2.heap.size (recA ⟨2, 0, 0, 0, z16, [], .zero⟩ RS.none) rfl rfl 42 (recA RecD.zero RS.none) (heap_alloc_last _ _) (sizeR _ rfl) rfl (recA_one _ _) ?_)
  try simp only [Act.put, List.setIfInBounds_toArray, List.set_cons_zero, List.set_cons_succ]
  have hq5 : ((w2.alloc (.cells (recA RecD.zero RS.none) 42)).setRow w2.heap.size (recA ⟨2, 0, 0, 0, z16, [], .zero⟩ RS.none)).heap[w2.heap.size]? = some (.cells (recA ⟨2, 0, 0, 0, z16, [], .zero⟩ RS.none) 42 (0, 0)) ∧ Below w2.heap.size w2 ((w2.alloc (.cells (recA RecD.zero RS.none) 42)).setRow w2.heap.size (recA ⟨2, 0, 0, 0, z16, [], .zero⟩ RS.none)) ∧ ((w2.alloc (.cells (recA RecD.zero RS.none) 42)).setRow w2.heap.size (recA ⟨2, 0, 0, 0, z16, [], .zero⟩ RS.none)).heap.size = w.heap.size + 3 := ⟨setRow_heap _ _ _ _ _ _ (heap_alloc_last _ _), below_setRow (Below.allocs _ _) (Nat.le_refl _) _, by have := HQ1.out.2.2.1; simp [World.setRow]; omega⟩
  generalize (w2.alloc (.cells (recA RecD.zero RS.none) 42)).setRow w2.heap.size (recA ⟨2, 0, 0, 0, z16, [], .zero⟩ RS.none) = x0 at *
  have hs2 := HQ1.out.2.2.1
  rw [hs2] at hq5 ⊢
  have HD : Hid (QD w ⟨2, 0, 0, 0, z16, [], .zero⟩ RS.none x0) := ⟨Below.keepBlock hq5.2.1 HQ1.out.1 (by omega), Below.keepBlock hq5.2.1 HQ1.out.2.1 (by omega), hq5.1, HQ1.out.2.2.2.trans (hq5.2.1.mono (by have := HQ1.out.2.2.1; omega)), kind_wf HKB.out⟩
  have HX3 : Hid (x0.heap.size = w.heap.size + 3) := hq5.2.2
  clear hcb hs2 hq5 HQ1
  obtain ⟨a0, a1, a2, a3, a20, -, -, -, fz⟩ := HD.out.rw.cells
  go_upto_region 12 with fail
  have hrs := heap_alloc_last x0 (.cells #[.int .i64 0, .int .i64 6, .int .i64 25, .int .i64 0, .int .i64 5, .int .i64 0, .int .i64 33] 3)
  have hd1 := HD.out.below (Below.allocs x0 (.cells #[.int .i64 0, .int .i64 6, .int .i64 25, .int .i64 0, .int .i64 5, .int .i64 0, .int .i64 33] 3))
  rw [HX3.out] at hrs ⊢
  generalize x0.alloc (.cells #[.int .i64 0, .int .i64 6, .int .i64 25, .int .i64 0, .int .i64 5, .int .i64 0, .int .i64 33] 3) = x1 at *
  have z0 : x1.cell? ⟨w.heap.size + 3, 0, none⟩ = some (.int .i64 0) := by rw [cell_of_row _ _ _ _ _ _ hrs]; rfl
  have z1 : x1.cell? ⟨w.heap.size + 3, 1, none⟩ = some (.int .i64 6) := by rw [cell_of_row _ _ _ _ _ _ hrs]; rfl
  have z2 : x1.cell? ⟨w.heap.size + 3, 2, none⟩ = some (.int .i64 25) := by rw [cell_of_row _ _ _ _ _ _ hrs]; rfl
  have z3 : x1.cell? ⟨w.heap.size + 3, 3, none⟩ = some (.int .i64 0) := by rw [cell_of_row _ _ _ _ _ _ hrs]; rfl
  have z4 : x1.cell? ⟨w.heap.size + 3, 4, none⟩ = some (.int .i64 5) := by rw [cell_of_row _ _ _ _ _ _ hrs]; rfl
  have z6 : x1.cell? ⟨w.heap.size + 3, 6, none⟩ = some (.int .i64 33) := by rw [cell_of_row _ _ _ _ _ _ hrs]; rfl
  clear HD HX3 hrs a0 a1 a2 a3 a20 fz
  have HD := Lib.hid hd1
  clear hd1
  obtain ⟨a0, a1, a2, a3, a20, -, -, -, fz⟩ := HD.out.rw.cells
  obtain ⟨q9, hrun, hqb⟩ := cut3 l HB.out 1 4 1 5 (by omega) (by omega) (by omega)
  have HQB := Lib.hid hqb
  clear hqb
  go_wp2_with fail
  refine (value_any _ _ _ _ _ (HQB.out _ HD.out.low) (by omega)).mono ?_
  rintro e w' ⟨rfl, rfl⟩
  clear hrun HQB
  generalize Rdr.beN ((l.drop 1).take 4) = n1 at *
  have hdn := HD.out.put (HD.out.rw.ses n1 HV1.out)
  clear HD a0 a2 a3 a20 z0 z1 z2 z3 z4 z6
  go_upto_region 23 with fail
  clear a1 fz
  have HD := Lib.hid hdn
  clear hdn
  generalize x1.setCell ⟨w.heap.size + 2, 1, none⟩ (.int .u32 (n1 : Int)) = x2 at *
  obtain ⟨a0, a1, a2, a3, a20, -, -, -, fz⟩ := HD.out.rw.cells
  obtain ⟨q9, hrun, hqb⟩ := cut3 l HB.out 5 4 5 9 (by omega) (by omega) (by omega)
  have HQB := Lib.hid hqb
  clear hqb
  go_wp2_with fail
  refine (value_any _ _ _ _ _ (HQB.out _ HD.out.low) (by omega)).mono ?_
  rintro e w' ⟨rfl, rfl⟩
  clear hrun HQB
  generalize Rdr.beN ((l.drop 5).take 4) = n2 at *
  have hdn := HD.out.put (HD.out.rw.seq n2 HV2.out)
  clear HD a0 a1 a3 a20
  go_upto_region 27 with fail
  clear a2 fz
  have HD := Lib.hid hdn
  clear hdn
  generalize x2.setCell ⟨w.heap.size + 2, 2, none⟩ (.int .u32 (n2 : Int)) = x3 at *
  go_wp2_with fail
  have hst : QD w ⟨2, n1, n2, 0, partN 16 (l.drop 9) 0, [], .zero⟩ RS.none x3 := by
    have hp0 : partN 16 (l.drop 9) 0 = z16 := by unfold partN; rw [List.take_zero, List.nil_append]; rfl
    rw [hp0]
    exact HD.out
  clear HD
  have HST := Lib.hid hst
  clear hst
  go_loopw [11] (fun vj wr => ∃ j : Nat, j ≤ 16 ∧ vj = .int .i64 j ∧ QD w ⟨2, n1, n2, 0, partN 16 (l.drop 9) j, [], .zero⟩ RS.none wr) (fun vj _ => 16 - (intOf vj).toNat)
  case atStart => exact ⟨0, by omega, rfl, HST.out⟩
  case round =>
    clear HST
    obtain ⟨j, hj, rfl, hqd⟩ := hrel
    have HD := Lib.hid hqd
    clear hqd
    by_cases hlj : j < 16
    · have hdj : decide ((j : Int) < (16 : Int)) = true := decide_eq_true (by omega)
      have hdj2 : decide (j < 16) = true := decide_eq_true hlj
      have hin : 9 + j < l.length := by rw [HN.out]; omega
      have hin2 : j < (l.drop 9).length := by have := HL9.out; omega
      have hc' := Bs.byte (HB.out.below HD.out.low) hin
      have hge : l[9 + j]'hin = (l.drop 9)[j]'hin2 := by rw [List.getElem_drop]
      rw [hge] at hc'
      have hpn := partN_set hin2 hlj
      have hrw := HD.out.rw.set (4 + j) (.int .u8 (((l.drop 9)[j]'hin2).toNat : Int)) (rset_hint RS.none HD.out.wf.hint j hlj ((l.drop 9)[j]'hin2)) (by
        dsimp only
        rw [hpn]
        exact mk_wf (by decide) HV1.out HV2.out (by decide) (partN_len (by omega) (by omega)) Blk.zero_wf)
      dsimp only at hrw
      rw [hpn] at hrw
      have HQ2 := Lib.hid (HD.out.put hrw)
      obtain ⟨yo, hcx⟩ : ∃ yo, wr.cell? ⟨w.heap.size + 2, 4 + j, none⟩ = some yo := by
        rw [cell_of_row _ _ _ _ _ _ HD.out.r2, Array.getElem?_eq_getElem (by rw [recA_size HD.out.wf]; omega)]
        exact ⟨_, rfl⟩
      have hfx : wr.frozen? ⟨w.heap.size + 2, 4 + j, none⟩ = false := frozen_of_row _ _ _ _ _ HD.out.r2
      have hwx : IntKind.i64.wrap ((9 : Int) + (j : Int)) = ((9 + j : Nat) : Int) := by
        rw [IntWalk.i64_in _ (by omega)]
        omega
      have hinn : 9 + j < n0 := by have := HN.out; omega
      obtain ⟨ix, hix⟩ : ∃ ix, 9 + j = ix := ⟨_, rfl⟩
      rw [hix] at hc' hwx hinn
      generalize (l.drop 9)[j]'hin2 = y at *
      clear hin hin2 hrw hix hpn hge
      go_wp2_with fail
      go_roundw
      case rel => exact ⟨j + 1, by omega, by go_num, HQ2.out⟩
      case measure => simp [intOf]; omega
    · obtain rfl : j = 16 := by omega
      have hdj : decide ((16 : Int) < (16 : Int)) = false := by decide
      rw [partN_full] at HD
      clear hlj
      have hdc := HDC.out
      rw [HR2.out] at hdc
      have hwn : IntKind.i64.wrap ((n0 : Int) - 25) = ((n0 - 25 : Nat) : Int) := by rw [IntWalk.i64_in _ (by omega)]; omega
      by_cases hg : 600 < n0 - 25
      · have e4 : decide ((600 : Int) < ((n0 - 25 : Nat) : Int)) = true := decide_eq_true (by omega)
        have e4b : decide (600 < n0 - 25) = true := decide_eq_true hg
        have HF := Lib.hid (HBD.out 3 (by rw [hdc, if_pos hg]))
        obtain ⟨n25, hn25⟩ : ∃ n25, n0 - 25 = n25 := ⟨_, rfl⟩
        rw [hn25] at hwn e4 e4b
        clear hg hdc HDC HGD HBD hn25 HR2
        skip
        go_wp2_with (first
          | refine wpList_load_row rfl 42 _ rfl (w.heap.size + 1) rfl 42 (recA RecD.zero RS.none) (0, 0) _ (HD.out.r1) Tryd.underlying42 rfl (sizeR _ rfl) ?_
          | refine wpList_store_row rfl 42 _ _ rfl w.heap.size (recA RecD.zero RS.none) rfl rfl 42 (recA RecD.zero RS.none) (HD.out.r0) (sizeR _ rfl) rfl (recA_one _ _) ?_)
        have HS := Lib.hid (setRow_heap _ _ _ (recA RecD.zero RS.none) _ _ (HD.out.r0))
        refine bodyPost_ret (Blk.results_cell_tmp2 rfl _ _ _ _ _ _ _ rfl HS.out Tryd.underlying42 rfl (sizeR _ rfl)) rfl ?_
        exact HF.out _ (below_setRow (HD.out.low) (Nat.le_refl _) _)
      have e4 : decide ((600 : Int) < ((n0 - 25 : Nat) : Int)) = false := decide_eq_false (by omega)
      have e4b : decide (600 < n0 - 25) = false := decide_eq_false hg
      rw [if_neg hg] at hdc
      have HFO := Lib.hid (HGD.out _ hdc)
      clear hdc HGD HBD HDC HR2
      have hrun := Cut.cutR HB.out 25 25 rfl (by omega)
      have hbc := Cut.bs_cut HB.out 25 (n0 - 25) (by omega)
      rw [List.take_of_length_le (by rw [List.length_drop, HN.out]; omega)] at hbc
      have HBC := Lib.hid (hbc.below HD.out.low)
      clear hbc
      generalize Cut.cutQ (some ⟨b, o, none⟩) c0 25 = qc at *
      have HN25 : Hid ((l.drop 25).length = n0 - 25) := by show _ = _; rw [List.length_drop, HN.out]
      have HG : Hid (n0 - 25 ≤ 600) := by show _ ≤ _; omega
      clear hg
      obtain ⟨n25, hn25⟩ : ∃ n25, n0 - 25 = n25 := ⟨_, rfl⟩
      obtain ⟨c25, hc25⟩ : ∃ m, c0 - 25 = m := ⟨_, rfl⟩
      rw [hn25] at hwn e4 e4b hrun HBC HN25 HG
      rw [hc25] at hrun HBC
      obtain ⟨BB, hBB⟩ : ∃ BB, l.drop 25 = BB := ⟨_, rfl⟩
      rw [hBB] at HBC HN25 HFO
      clear hn25 hc25 hBB
      obtain ⟨R2, hR2⟩ : ∃ R2 : RecD, R2 = ⟨2, n1, n2, 0, (l.drop 9).take 16, [], .zero⟩ := ⟨_, rfl⟩
      obtain ⟨R3, hR3⟩ : ∃ R3 : RecD, R3 = ⟨2, n1, n2, 0, (l.drop 9).take 16, BB, .zero⟩ := ⟨_, rfl⟩
      have HB3 : Hid ({ R2 with blob := BB } = R3) := by show _ = _; rw [hR2, hR3]
      have HRT : Hid (R3.right = true) := by show _ = _; rw [hR3]; exact right2t (by rw [HN25.out]; exact HG.out)
      have HK3 : Hid (R3.kind = 2) := by show _ = _; rw [hR3]
      have HAT : Hid (∀ x p c, R3.wf → Bs x p n25 c BB → RecAt x R3 ⟨p, c, none, 0⟩) := fun x p c hw hb => by
        have hl := HN25.out
        subst hl
        refine ⟨hw, ?_, ?_⟩
        · rw [hR3]; exact hb
        · rw [hR3]; exact Is.nil _ _
      obtain ⟨b0, _, _, _, b20, -, -, -, gz⟩ := HD.out.rw.cells
      have k0 : wr.cell? ⟨w.heap.size + 2, 0, none⟩ = some (.int .i64 2) := b0
      have k20 : wr.cell? ⟨w.heap.size + 2, 20, none⟩ = some (.slice none 0 0) := b20
      rw [← hR2] at HD
      rw [← hR3] at HFO
      clear hR2 hR3 b0 b20
      have HBX : Hid (Below wr.heap.size wr (wr.alloc (.cells #[] 5))) := Below.allocs _ _
      have HO : Hid ((wr.alloc (.cells #[] 5)).ownsRow wr.heap.size 5 1 (.slice (some ⟨wr.heap.size, 0, none⟩) 0 0) 0 []) := ⟨rfl, .inr ⟨wr.heap.size, 0, _, rfl, Nat.le_refl _, heap_alloc_last _ _, Nat.le_refl _, by simp [maxLen], rfl, rfl⟩⟩
      have HSX := Lib.hid (HBC.out.below HBX.out)
      clear HBC
      go_upto_region 33 with fail
      have hlx := HSX.out.le
      have hmx := HSX.out.max
      have hg6 := HG.out
      go_upto_region 34 with (at_builtin; refine wpList_append_nx rfl _ _ 29 rfl (base := wr.heap.size) Tryd.underlying29 info8b rfl (by omega) rfl HO.out rfl HSX.out (bytesV_one _) ⟨by omega, by omega⟩ HBX.out.size ?_)
      intro p9 c9 x9 ho9 hg9 _ _
      have hb9 := HBX.out.grown hg9 HBX.out.size (fun k hk => (HO.out.lt k hk).1)
      have hl := HN25.out
      subst hl
      try rw [Nat.zero_add] at ho9
      try rw [List.nil_append] at ho9
      have HLT : Hid (w.heap.size + 2 < wr.heap.size) := HD.out.lt
      have HLO : Hid (w.heap.size ≤ wr.heap.size) := HD.out.low.size
      have hd9 := HD.out.below hb9
      obtain ⟨-, -, -, -, k29, -, -, -, g29⟩ := hd9.rw.cells
      have how := own_touch ho9 ((Turns.refl (fun k => k = w.heap.size + 2) x9).setCell (p := ⟨w.heap.size + 2, 20, none⟩) (fun _ => rfl) (.slice p9 BB.length c9)) (fun k hk e => by have := (ho9.lt k hk).1; have := HLT.out; omega)
      have hdn := hd9.put (hd9.rw.blob BB p9 c9)
      rw [HB3.out] at hdn
      have HD3 := Lib.hid hdn
      have HOW := Lib.hid how
      clear HD HO HSX HBX hg9 hlx hmx hb9 hrun how hdn hd9 ho9 k0 k20 gz
      go_upto_region 34 with fail
      clear k29 g29
      generalize x9.setCell ⟨w.heap.size + 2, 20, none⟩ (.slice p9 BB.length c9) = x10 at *
      obtain ⟨k0, -, -, -, -, -, -, -, -⟩ := HD3.out.rw.cells
      rw [HK3.out] at k0
      have e7 : decide ((n0 : Int) < (n0 : Int)) = false := decide_eq_false (by omega)
      have HSB := Lib.hid (Cut.own_bs HOW.out)
      have HRX := Lib.hid (rright_any R3 ⟨p9, c9, none, 0⟩ x10 (HAT.out _ _ _ HD3.out.wf HSB.out))
      go_wp2_with (refine wpList_load_row rfl 42 _ rfl (w.heap.size + 2) rfl 42 (recA R3 ⟨p9, c9, none, 0⟩) (0, 0) _ HD3.out.r2 Tryd.underlying42 rfl (sizeR _ (recA_size HD3.out.wf _)) ?_)
      refine HRX.out.mono ?_
      rintro e xr ⟨rfl, hbr⟩
      rw [HRT.out]
      have hdr := HD3.out.below hbr
      have hor := own_touch HOW.out (Turns.of_below (S := fun _ => False) hbr) (fun _ _ h => h)
      clear HD3 hbr HRX k0 HSB HOW
      have HD := Lib.hid hdr
      have HOW := Lib.hid hor
      clear hdr hor
      go_wp2_with (first
        | refine wpList_load_row rfl 42 _ rfl (w.heap.size + 2) rfl 42 (recA R3 ⟨p9, c9, none, 0⟩) (0, 0) _ HD.out.r2 Tryd.underlying42 rfl (sizeR _ (recA_size HD.out.wf _)) ?_
        | refine wpList_store_row rfl 42 _ _ rfl w.heap.size (recA R3 ⟨p9, c9, none, 0⟩) rfl rfl 42 (recA RecD.zero RS.none) HD.out.r0 (sizeR _ (recA_size HD.out.wf _)) (by rw [recA_size HD.out.wf]; rfl) (recA_one _ _) ?_)
      have HS := Lib.hid (setRow_heap _ _ _ (recA R3 ⟨p9, c9, none, 0⟩) _ _ HD.out.r0)
      refine bodyPost_ret (Blk.results_cell_tmp2 rfl _ _ _ _ _ _ _ rfl HS.out Tryd.underlying42 rfl (sizeR _ (recA_size HD.out.wf _))) rfl ?_
      exact HFO.out _ _ (HAT.out _ _ _ HD.out.wf (Cut.own_bs (own_touch HOW.out (turns_setRow _ w.heap.size _) (fun k hk e => by have := (HOW.out.lt k hk).1; have := HLT.out; have := HLO.out; omega)))) (below_setRow HD.out.low (Nat.le_refl _) _)
end Go.Proofs.YtdaigkcbmdcbcaaDoor.Rec
