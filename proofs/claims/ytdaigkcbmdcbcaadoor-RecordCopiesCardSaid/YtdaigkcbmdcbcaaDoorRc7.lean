/- PARTS, JOINED: RECORDS: may one be? in the reference; Few. Conditions: none. RECORDS: their bytes, plain; Encode. Conditions: none. RECORDS, plain: what is read. Conditions: none. RECORDS, plain: what the program's chain of reads comes to. Conditions: none. -/
import Derived.Test.YtdaigkcbmdcbcaaDoorRc1
import Derived.Test.YtdaigkcbmdcbcaaDoorRc2
import Derived.Test.YtdaigkcbmdcbcaaDoorRc3
import Derived.Test.YtdaigkcbmdcbcaaDoorRc4
import Derived.Test.YtdaigkcbmdcbcaaDoorRc5
import Derived.Test.YtdaigkcbmdcbcaaDoorRc6
namespace Go.Proofs.YtdaigkcbmdcbcaaDoor.Rec
open Go.RowKit Go.Mir Go.Mir.Parts Wr Cod Blk

theorem natB (n : Nat) : (n == 0) = ((n : Int) == 0) := by
  rw [Bool.eq_iff_iff, beq_iff_eq, beq_iff_eq]; omega
theorem blobB (b : List UInt8) : (b == []) = ((b.length : Int) == 0) := by
  rw [Bool.eq_iff_iff, beq_iff_eq, beq_iff_eq]
  constructor
  · rintro rfl; rfl
  · intro h; exact List.length_eq_zero_iff.1 (by omega)
theorem decB1 (n : Nat) : decide (1 ≤ n) = decide ((1 : Int) ≤ (n : Int)) := decide_eq_decide.2 (by omega)
theorem decB2 (n k : Nat) : decide (n ≤ k) = decide ((n : Int) ≤ (k : Int)) := decide_eq_decide.2 (by omega)
def noB (r : RecD) : Bool := sameB r.blk BlkD.zero
theorem right1 {r : RecD} (h : r.kind = 1) : r.right = (((r.seq : Int) == 0) && ((r.hint == z16) && (((r.blob.length : Int) == 0) && (noB r && (decide ((1 : Int) ≤ (r.quo : Int)) && decide ((r.quo : Int) ≤ 64)))))) := by
  have ho : r.only = ⟨r.kind, r.ses, 0, r.quo, z16, [], .zero⟩ := by unfold RecD.only; rw [if_neg (by omega), if_neg (by omega), if_pos h, h]
  have ht : r.tail = (decide (1 ≤ r.quo) && decide (r.quo ≤ 64)) := by unfold RecD.tail; rw [if_pos h]
  unfold RecD.right RecD.same noB
  rw [ho, ht, natB, blobB, decB1, decB2]
  simp [Bool.and_assoc]
theorem right2 {r : RecD} (h : r.kind = 2) : r.right = (((r.quo : Int) == 0) && (noB r && decide ((r.blob.length : Int) ≤ 600))) := by
  have ho : r.only = ⟨r.kind, r.ses, r.seq, 0, r.hint, r.blob, .zero⟩ := by unfold RecD.only; rw [if_pos h, h]
  have ht : r.tail = decide (r.blob.length ≤ 600) := by unfold RecD.tail; rw [if_neg (by omega), if_pos h]
  unfold RecD.right RecD.same noB
  rw [ho, ht, natB, decB2]
  simp [Bool.and_assoc]
theorem right4 {r : RecD} (h : r.kind = 4) : r.right = (((r.quo : Int) == 0) && (((r.seq : Int) == 0) && ((r.hint == z16) && (((r.blob.length : Int) == 0) && noB r)))) := by
  have ho : r.only = ⟨r.kind, r.ses, 0, 0, z16, [], .zero⟩ := by unfold RecD.only; rw [if_neg (by omega), if_pos h, h]
  have ht : r.tail = true := by unfold RecD.tail; rw [if_neg (by omega), if_neg (by omega), if_neg (by omega), h]; rfl
  unfold RecD.right RecD.same noB
  rw [ho, ht, natB, natB, blobB]
  generalize ((r.seq : Int) == 0) = A
  generalize ((r.quo : Int) == 0) = B
  generalize (r.hint == z16) = C
  generalize ((r.blob.length : Int) == 0) = D
  generalize sameB r.blk BlkD.zero = E
  simp only [beq_self_eq_true]
  cases A <;> cases B <;> cases C <;> cases D <;> cases E <;> rfl
theorem right5 {r : RecD} (h : r.kind = 5) : r.right = (((r.ses : Int) == 0) && (((r.quo : Int) == 0) && (((r.seq : Int) == 0) && ((r.hint == z16) && (((r.blob.length : Int) == 0) && rightB r.blk))))) := by
  have ho : r.only = ⟨r.kind, 0, 0, 0, z16, [], r.blk⟩ := by unfold RecD.only; rw [if_neg (by omega), if_neg (by omega), if_neg (by omega), if_pos h, h]
  have ht : r.tail = rightB r.blk := by unfold RecD.tail; rw [if_neg (by omega), if_neg (by omega), if_pos h]
  have hs : sameB r.blk r.blk = true := by unfold sameB; simp
  unfold RecD.right RecD.same
  rw [ho, ht, natB, natB, natB, blobB]
  dsimp only
  rw [hs]
  generalize ((r.seq : Int) == 0) = A
  generalize ((r.quo : Int) == 0) = B
  generalize (r.hint == z16) = C
  generalize ((r.blob.length : Int) == 0) = D
  generalize ((r.ses : Int) == 0) = E
  generalize rightB r.blk = F
  simp only [beq_self_eq_true]
  cases A <;> cases B <;> cases C <;> cases D <;> cases E <;> cases F <;> rfl
theorem right6 {r : RecD} (h : r.kind = 6) : r.right = (((r.ses : Int) == 0) && (((r.quo : Int) == 0) && (((r.seq : Int) == 0) && ((r.hint == z16) && (((r.blob.length : Int) == 0) && sameB r.blk ⟨r.blk.hash, zeros, []⟩))))) := by
  have ho : r.only = ⟨r.kind, 0, 0, 0, z16, [], ⟨r.blk.hash, zeros, []⟩⟩ := by unfold RecD.only; rw [if_neg (by omega), if_neg (by omega), if_neg (by omega), if_neg (by omega), if_pos h, h]
  have ht : r.tail = true := by unfold RecD.tail; rw [if_neg (by omega), if_neg (by omega), if_neg (by omega), h]; rfl
  unfold RecD.right RecD.same
  rw [ho, ht, natB, natB, natB, blobB]
  dsimp only
  generalize ((r.seq : Int) == 0) = A
  generalize ((r.quo : Int) == 0) = B
  generalize (r.hint == z16) = C
  generalize ((r.blob.length : Int) == 0) = D
  generalize ((r.ses : Int) == 0) = E
  generalize sameB r.blk _ = F
  simp only [beq_self_eq_true]
  cases A <;> cases B <;> cases C <;> cases D <;> cases E <;> cases F <;> rfl
theorem right0 {r : RecD} (h1 : ¬ r.kind = 1) (h2 : ¬ r.kind = 2) (h4 : ¬ r.kind = 4) (h5 : ¬ r.kind = 5) (h6 : ¬ r.kind = 6) : r.right = false := by
  have ht : r.tail = false := by unfold RecD.tail; rw [if_neg h1, if_neg h2, if_neg h5, beq_eq_false_iff_ne.2 h4, beq_eq_false_iff_ne.2 h6]; rfl
  unfold RecD.right
  rw [ht, Bool.and_false]
theorem build_h0 : Tryd.prog.built 40 [] = some (idA z16) := by kernel_rfl
theorem build_bhv (a0 a1 a2 a3 a4 a5 a6 a7 a8 a9 a10 a11 a12 a13 a14 a15 a16 a17 a18 a19 a20 a21 a22 a23 a24 a25 a26 a27 a28 a29 a30 a31 : Value) : Tryd.prog.built 26 [(0, .agg #[a0, a1, a2, a3, a4, a5, a6, a7, a8, a9, a10, a11, a12, a13, a14, a15, a16, a17, a18, a19, a20, a21, a22, a23, a24, a25, a26, a27, a28, a29, a30, a31])] = some #[a0, a1, a2, a3, a4, a5, a6, a7, a8, a9, a10, a11, a12, a13, a14, a15, a16, a17, a18, a19, a20, a21, a22, a23, a24, a25, a26, a27, a28, a29, a30, a31, .int .u8 0, .int .u8 0, .int .u8 0, .int .u8 0, .int .u8 0, .int .u8 0, .int .u8 0, .int .u8 0, .int .u8 0, .int .u8 0, .int .u8 0, .int .u8 0, .int .u8 0, .int .u8 0, .int .u8 0, .int .u8 0, .int .u8 0, .int .u8 0, .int .u8 0, .int .u8 0, .int .u8 0, .int .u8 0, .int .u8 0, .int .u8 0, .int .u8 0, .int .u8 0, .int .u8 0, .int .u8 0, .int .u8 0, .int .u8 0, .int .u8 0, .int .u8 0, Value.slice none 0 0] := by kernel_rfl
theorem build_bhl (a : List Value) (ha : a.length = 32) : Tryd.prog.built 26 [(0, .agg a.toArray)] = some (a ++ bytesV zeros ++ [Value.slice none 0 0]).toArray :=
  match a, ha with
  | [a0, a1, a2, a3, a4, a5, a6, a7, a8, a9, a10, a11, a12, a13, a14, a15, a16, a17, a18, a19, a20, a21, a22, a23, a24, a25, a26, a27, a28, a29, a30, a31], _ => build_bhv a0 a1 a2 a3 a4 a5 a6 a7 a8 a9 a10 a11 a12 a13 a14 a15 a16 a17 a18 a19 a20 a21 a22 a23 a24 a25 a26 a27 a28 a29 a30 a31
theorem build_bh (h : List UInt8) (hl : h.length = 32) : Tryd.prog.built 26 [(0, .agg (idA h))] = some (blkA h zeros none 0 0) :=
  build_bhl (bytesV h) (by rw [bytesV_length, hl])
set_option maxRecDepth 100000 in
set_option maxHeartbeats 6400000 in
theorem rright_any (r : RecD) (s : RS) (w : World) (hR : RecAt w r s) :
    Calls Tryd.prog 22 #[.agg (recA r s)] w fun e w' => e = .returned (.bool r.right) ∧ Below w.heap.size w w' := by
  have HW := Lib.hid hR.wf
  have hble := hR.blob.le
  have hbmax := hR.blob.max
  have HB1 := Lib.hid (Below.allocs w (.cells (recA r s) 42))
  have HRA := Lib.hid (hR.below HB1.out)
  have HRW : Hid ((w.alloc (.cells (recA r s) 42)).heap[w.heap.size]? = some (.cells (recA r s) 42 (0, 0))) := heap_alloc_last _ _
  have HCC := Lib.hid (rec_cells HW.out HRW.out)
  have HNB := Lib.hid (Blk.rSame_any _ _ r.blk BlkD.zero s.q none _ s.d 0 0 _ HRA.out.blkAt ⟨rfl, rfl, rfl, Is.nil _ _⟩)
  have hq := fun w => eqH w r.hint z16 hR.wf.hint rfl
  have hnb : sameB r.blk BlkD.zero = noB r := rfl
  rw [hnb] at HNB
  clear hR hnb
  obtain ⟨HT, hHT⟩ : ∃ B, (r.hint == z16) = B := ⟨_, rfl⟩
  obtain ⟨BL, hBL⟩ : ∃ B, ((r.blob.length : Int) == 0) = B := ⟨_, rfl⟩
  obtain ⟨SQ, hSQ⟩ : ∃ B, ((r.seq : Int) == 0) = B := ⟨_, rfl⟩
  obtain ⟨Q0, hQ0⟩ : ∃ B, ((r.quo : Int) == 0) = B := ⟨_, rfl⟩
  obtain ⟨S0, hS0⟩ : ∃ B, ((r.ses : Int) == 0) = B := ⟨_, rfl⟩
  obtain ⟨Q1, hQ1⟩ : ∃ B, decide ((1 : Int) ≤ (r.quo : Int)) = B := ⟨_, rfl⟩
  obtain ⟨Q6, hQ6⟩ : ∃ B, decide ((r.quo : Int) ≤ 64) = B := ⟨_, rfl⟩
  obtain ⟨B6, hB6⟩ : ∃ B, decide ((r.blob.length : Int) ≤ 600) = B := ⟨_, rfl⟩
  obtain ⟨NB, hNB⟩ : ∃ B, noB r = B := ⟨_, rfl⟩
  have hQ1b : decide (1 ≤ r.quo) = Q1 := by rw [decB1, hQ1]
  have hQ1c : decide (0 < r.quo) = Q1 := by rw [← hQ1]; exact decide_eq_decide.2 (by omega)
  have hQ6b : decide (r.quo ≤ 64) = Q6 := by rw [← hQ6]; exact decide_eq_decide.2 (by omega)
  have hB6b : decide (r.blob.length ≤ 600) = B6 := by rw [← hB6]; exact decide_eq_decide.2 (by omega)
  rw [hNB] at HNB

  by_cases h1 : r.kind = 1
  · have t1 : (r.kind == 1) = true := by rw [beq_iff_eq]; exact h1
    have hrq := right1 h1
    rw [hSQ, hHT, hBL, hNB, hQ1, hQ6] at hrq
    have HRQ := Lib.hid hrq
    clear hrq hNB h1
    cases SQ
    · have HRES : Hid (r.right = false) := by show _ = _; rw [HRQ.out]; first | rfl | simp
      clear HRQ
      go_enter Tryd.func22, Tryd.ntmps22
      go_upto_region 1 with fail
      generalize w.alloc (.cells (recA r s) 42) = w1 at *
      obtain ⟨a0, a1, a2, a3, a20, _, _, _, _⟩ := HCC.out
      go_wp2_with (first
        | ((with_reducible refine wpAt 7 ?_); refine wpList_load_mid rfl 40 _ rfl w.heap.size 4 rfl (idA r.hint).toList _ HCC.out.rh Tryd.underlying40 rfl (by rw [Array.length_toList]; exact sizeH _ HW.out.hint) ?_)
        | ((with_reducible refine wpAt 8 ?_); refine Rdr.wpList_build rfl 40 _ rfl [] rfl _ build_h0 ?_)
        | ((with_reducible refine wpAt 15 ?_); refine wpList_load_mid rfl 26 _ rfl w.heap.size 21 rfl (r.blkA s).toList _ HCC.out.rb Tryd.underlying26 rfl (by rw [Array.length_toList, infoBlk _ rfl, rblk_size HW.out]) ?_)
        | ((with_reducible refine wpAt 16 ?_); refine Rdr.wpList_build rfl 26 _ rfl [] rfl _ build_b0 ?_))
      try rw [Array.toArray_toList]
      refine HNB.out.mono ?_
      rintro e w3 ⟨rfl, hb3⟩
      clear a0 a1 a2 a3 a20
      have HC3 := Lib.hid (rec_cells HW.out (Below.keepOld hb3 HRW.out))
      have HR3 := Lib.hid (HRA.out.below hb3)
      obtain ⟨a0, a1, a2, a3, a20, _, _, _, _⟩ := HC3.out
      have HB3 := Lib.hid (HB1.out.trans (hb3.mono HB1.out.size))
      clear hb3
      go_wp2_with fail
      go_ret
      exact ⟨bret HRES.out.symm, HB3.out⟩
    · skip
      cases HT
      · have HRES : Hid (r.right = false) := by show _ = _; rw [HRQ.out]; first | rfl | simp
        clear HRQ
        go_enter Tryd.func22, Tryd.ntmps22
        go_upto_region 1 with fail
        generalize w.alloc (.cells (recA r s) 42) = w1 at *
        obtain ⟨a0, a1, a2, a3, a20, _, _, _, _⟩ := HCC.out
        go_wp2_with (first
          | ((with_reducible refine wpAt 7 ?_); refine wpList_load_mid rfl 40 _ rfl w.heap.size 4 rfl (idA r.hint).toList _ HCC.out.rh Tryd.underlying40 rfl (by rw [Array.length_toList]; exact sizeH _ HW.out.hint) ?_)
          | ((with_reducible refine wpAt 8 ?_); refine Rdr.wpList_build rfl 40 _ rfl [] rfl _ build_h0 ?_)
          | ((with_reducible refine wpAt 15 ?_); refine wpList_load_mid rfl 26 _ rfl w.heap.size 21 rfl (r.blkA s).toList _ HCC.out.rb Tryd.underlying26 rfl (by rw [Array.length_toList, infoBlk _ rfl, rblk_size HW.out]) ?_)
          | ((with_reducible refine wpAt 16 ?_); refine Rdr.wpList_build rfl 26 _ rfl [] rfl _ build_b0 ?_))
        try rw [Array.toArray_toList]
        refine HNB.out.mono ?_
        rintro e w3 ⟨rfl, hb3⟩
        clear a0 a1 a2 a3 a20
        have HC3 := Lib.hid (rec_cells HW.out (Below.keepOld hb3 HRW.out))
        have HR3 := Lib.hid (HRA.out.below hb3)
        obtain ⟨a0, a1, a2, a3, a20, _, _, _, _⟩ := HC3.out
        have HB3 := Lib.hid (HB1.out.trans (hb3.mono HB1.out.size))
        clear hb3
        go_wp2_with fail
        go_ret
        exact ⟨bret HRES.out.symm, HB3.out⟩
      · skip
        cases BL
        · have HRES : Hid (r.right = false) := by show _ = _; rw [HRQ.out]; first | rfl | simp
          clear HRQ
          go_enter Tryd.func22, Tryd.ntmps22
          go_upto_region 1 with fail
          generalize w.alloc (.cells (recA r s) 42) = w1 at *
          obtain ⟨a0, a1, a2, a3, a20, _, _, _, _⟩ := HCC.out
          go_wp2_with (first
            | ((with_reducible refine wpAt 7 ?_); refine wpList_load_mid rfl 40 _ rfl w.heap.size 4 rfl (idA r.hint).toList _ HCC.out.rh Tryd.underlying40 rfl (by rw [Array.length_toList]; exact sizeH _ HW.out.hint) ?_)
            | ((with_reducible refine wpAt 8 ?_); refine Rdr.wpList_build rfl 40 _ rfl [] rfl _ build_h0 ?_)
            | ((with_reducible refine wpAt 15 ?_); refine wpList_load_mid rfl 26 _ rfl w.heap.size 21 rfl (r.blkA s).toList _ HCC.out.rb Tryd.underlying26 rfl (by rw [Array.length_toList, infoBlk _ rfl, rblk_size HW.out]) ?_)
            | ((with_reducible refine wpAt 16 ?_); refine Rdr.wpList_build rfl 26 _ rfl [] rfl _ build_b0 ?_))
          try rw [Array.toArray_toList]
          refine HNB.out.mono ?_
          rintro e w3 ⟨rfl, hb3⟩
          clear a0 a1 a2 a3 a20
          have HC3 := Lib.hid (rec_cells HW.out (Below.keepOld hb3 HRW.out))
          have HR3 := Lib.hid (HRA.out.below hb3)
          obtain ⟨a0, a1, a2, a3, a20, _, _, _, _⟩ := HC3.out
          have HB3 := Lib.hid (HB1.out.trans (hb3.mono HB1.out.size))
          clear hb3
          go_wp2_with fail
          go_ret
          exact ⟨bret HRES.out.symm, HB3.out⟩
        · skip
          cases NB
          · have HRES : Hid (r.right = false) := by show _ = _; rw [HRQ.out]; first | rfl | simp
            clear HRQ
            go_enter Tryd.func22, Tryd.ntmps22
            go_upto_region 1 with fail
            generalize w.alloc (.cells (recA r s) 42) = w1 at *
            obtain ⟨a0, a1, a2, a3, a20, _, _, _, _⟩ := HCC.out
            go_wp2_with (first
              | ((with_reducible refine wpAt 7 ?_); refine wpList_load_mid rfl 40 _ rfl w.heap.size 4 rfl (idA r.hint).toList _ HCC.out.rh Tryd.underlying40 rfl (by rw [Array.length_toList]; exact sizeH _ HW.out.hint) ?_)
              | ((with_reducible refine wpAt 8 ?_); refine Rdr.wpList_build rfl 40 _ rfl [] rfl _ build_h0 ?_)
              | ((with_reducible refine wpAt 15 ?_); refine wpList_load_mid rfl 26 _ rfl w.heap.size 21 rfl (r.blkA s).toList _ HCC.out.rb Tryd.underlying26 rfl (by rw [Array.length_toList, infoBlk _ rfl, rblk_size HW.out]) ?_)
              | ((with_reducible refine wpAt 16 ?_); refine Rdr.wpList_build rfl 26 _ rfl [] rfl _ build_b0 ?_))
            try rw [Array.toArray_toList]
            refine HNB.out.mono ?_
            rintro e w3 ⟨rfl, hb3⟩
            clear a0 a1 a2 a3 a20
            have HC3 := Lib.hid (rec_cells HW.out (Below.keepOld hb3 HRW.out))
            have HR3 := Lib.hid (HRA.out.below hb3)
            obtain ⟨a0, a1, a2, a3, a20, _, _, _, _⟩ := HC3.out
            have HB3 := Lib.hid (HB1.out.trans (hb3.mono HB1.out.size))
            clear hb3
            go_wp2_with fail
            go_ret
            exact ⟨bret HRES.out.symm, HB3.out⟩
          · skip
            cases Q1
            · have HRES : Hid (r.right = false) := by show _ = _; rw [HRQ.out]; first | rfl | simp
              clear HRQ
              go_enter Tryd.func22, Tryd.ntmps22
              go_upto_region 1 with fail
              generalize w.alloc (.cells (recA r s) 42) = w1 at *
              obtain ⟨a0, a1, a2, a3, a20, _, _, _, _⟩ := HCC.out
              go_wp2_with (first
                | ((with_reducible refine wpAt 7 ?_); refine wpList_load_mid rfl 40 _ rfl w.heap.size 4 rfl (idA r.hint).toList _ HCC.out.rh Tryd.underlying40 rfl (by rw [Array.length_toList]; exact sizeH _ HW.out.hint) ?_)
                | ((with_reducible refine wpAt 8 ?_); refine Rdr.wpList_build rfl 40 _ rfl [] rfl _ build_h0 ?_)
                | ((with_reducible refine wpAt 15 ?_); refine wpList_load_mid rfl 26 _ rfl w.heap.size 21 rfl (r.blkA s).toList _ HCC.out.rb Tryd.underlying26 rfl (by rw [Array.length_toList, infoBlk _ rfl, rblk_size HW.out]) ?_)
                | ((with_reducible refine wpAt 16 ?_); refine Rdr.wpList_build rfl 26 _ rfl [] rfl _ build_b0 ?_))
              try rw [Array.toArray_toList]
              refine HNB.out.mono ?_
              rintro e w3 ⟨rfl, hb3⟩
              clear a0 a1 a2 a3 a20
              have HC3 := Lib.hid (rec_cells HW.out (Below.keepOld hb3 HRW.out))
              have HR3 := Lib.hid (HRA.out.below hb3)
              obtain ⟨a0, a1, a2, a3, a20, _, _, _, _⟩ := HC3.out
              have HB3 := Lib.hid (HB1.out.trans (hb3.mono HB1.out.size))
              clear hb3
              go_wp2_with fail
              go_ret
              exact ⟨bret HRES.out.symm, HB3.out⟩
            · skip
              cases Q6
              · have HRES : Hid (r.right = false) := by show _ = _; rw [HRQ.out]; first | rfl | simp
                clear HRQ
                go_enter Tryd.func22, Tryd.ntmps22
                go_upto_region 1 with fail
                generalize w.alloc (.cells (recA r s) 42) = w1 at *
                obtain ⟨a0, a1, a2, a3, a20, _, _, _, _⟩ := HCC.out
                go_wp2_with (first
                  | ((with_reducible refine wpAt 7 ?_); refine wpList_load_mid rfl 40 _ rfl w.heap.size 4 rfl (idA r.hint).toList _ HCC.out.rh Tryd.underlying40 rfl (by rw [Array.length_toList]; exact sizeH _ HW.out.hint) ?_)
                  | ((with_reducible refine wpAt 8 ?_); refine Rdr.wpList_build rfl 40 _ rfl [] rfl _ build_h0 ?_)
                  | ((with_reducible refine wpAt 15 ?_); refine wpList_load_mid rfl 26 _ rfl w.heap.size 21 rfl (r.blkA s).toList _ HCC.out.rb Tryd.underlying26 rfl (by rw [Array.length_toList, infoBlk _ rfl, rblk_size HW.out]) ?_)
                  | ((with_reducible refine wpAt 16 ?_); refine Rdr.wpList_build rfl 26 _ rfl [] rfl _ build_b0 ?_))
                try rw [Array.toArray_toList]
                refine HNB.out.mono ?_
                rintro e w3 ⟨rfl, hb3⟩
                clear a0 a1 a2 a3 a20
                have HC3 := Lib.hid (rec_cells HW.out (Below.keepOld hb3 HRW.out))
                have HR3 := Lib.hid (HRA.out.below hb3)
                obtain ⟨a0, a1, a2, a3, a20, _, _, _, _⟩ := HC3.out
                have HB3 := Lib.hid (HB1.out.trans (hb3.mono HB1.out.size))
                clear hb3
                go_wp2_with fail
                go_ret
                exact ⟨bret HRES.out.symm, HB3.out⟩
              · skip
                have HRES : Hid (r.right = true) := by show _ = _; rw [HRQ.out]; first | rfl | simp
                clear HRQ
                go_enter Tryd.func22, Tryd.ntmps22
                go_upto_region 1 with fail
                generalize w.alloc (.cells (recA r s) 42) = w1 at *
                obtain ⟨a0, a1, a2, a3, a20, _, _, _, _⟩ := HCC.out
                go_wp2_with (first
                  | ((with_reducible refine wpAt 7 ?_); refine wpList_load_mid rfl 40 _ rfl w.heap.size 4 rfl (idA r.hint).toList _ HCC.out.rh Tryd.underlying40 rfl (by rw [Array.length_toList]; exact sizeH _ HW.out.hint) ?_)
                  | ((with_reducible refine wpAt 8 ?_); refine Rdr.wpList_build rfl 40 _ rfl [] rfl _ build_h0 ?_)
                  | ((with_reducible refine wpAt 15 ?_); refine wpList_load_mid rfl 26 _ rfl w.heap.size 21 rfl (r.blkA s).toList _ HCC.out.rb Tryd.underlying26 rfl (by rw [Array.length_toList, infoBlk _ rfl, rblk_size HW.out]) ?_)
                  | ((with_reducible refine wpAt 16 ?_); refine Rdr.wpList_build rfl 26 _ rfl [] rfl _ build_b0 ?_))
                try rw [Array.toArray_toList]
                refine HNB.out.mono ?_
                rintro e w3 ⟨rfl, hb3⟩
                clear a0 a1 a2 a3 a20
                have HC3 := Lib.hid (rec_cells HW.out (Below.keepOld hb3 HRW.out))
                have HR3 := Lib.hid (HRA.out.below hb3)
                obtain ⟨a0, a1, a2, a3, a20, _, _, _, _⟩ := HC3.out
                have HB3 := Lib.hid (HB1.out.trans (hb3.mono HB1.out.size))
                clear hb3
                go_wp2_with fail
                go_ret
                exact ⟨bret HRES.out.symm, HB3.out⟩
  have t1 : (r.kind == 1) = false := by rw [beq_eq_false_iff_ne]; exact h1
  by_cases h2 : r.kind = 2
  · have t2 : (r.kind == 2) = true := by rw [beq_iff_eq]; exact h2
    have hrq := right2 h2
    rw [hQ0, hNB, hB6] at hrq
    have HRQ := Lib.hid hrq
    clear hrq hNB h2 h1
    cases Q0
    · have HRES : Hid (r.right = false) := by show _ = _; rw [HRQ.out]; first | rfl | simp
      clear HRQ
      go_enter Tryd.func22, Tryd.ntmps22
      go_upto_region 1 with fail
      generalize w.alloc (.cells (recA r s) 42) = w1 at *
      obtain ⟨a0, a1, a2, a3, a20, _, _, _, _⟩ := HCC.out
      go_wp2_with (first
        | ((with_reducible refine wpAt 7 ?_); refine wpList_load_mid rfl 40 _ rfl w.heap.size 4 rfl (idA r.hint).toList _ HCC.out.rh Tryd.underlying40 rfl (by rw [Array.length_toList]; exact sizeH _ HW.out.hint) ?_)
        | ((with_reducible refine wpAt 8 ?_); refine Rdr.wpList_build rfl 40 _ rfl [] rfl _ build_h0 ?_)
        | ((with_reducible refine wpAt 15 ?_); refine wpList_load_mid rfl 26 _ rfl w.heap.size 21 rfl (r.blkA s).toList _ HCC.out.rb Tryd.underlying26 rfl (by rw [Array.length_toList, infoBlk _ rfl, rblk_size HW.out]) ?_)
        | ((with_reducible refine wpAt 16 ?_); refine Rdr.wpList_build rfl 26 _ rfl [] rfl _ build_b0 ?_))
      try rw [Array.toArray_toList]
      refine HNB.out.mono ?_
      rintro e w3 ⟨rfl, hb3⟩
      clear a0 a1 a2 a3 a20
      have HC3 := Lib.hid (rec_cells HW.out (Below.keepOld hb3 HRW.out))
      have HR3 := Lib.hid (HRA.out.below hb3)
      obtain ⟨a0, a1, a2, a3, a20, _, _, _, _⟩ := HC3.out
      have HB3 := Lib.hid (HB1.out.trans (hb3.mono HB1.out.size))
      clear hb3
      go_wp2_with fail
      go_ret
      exact ⟨bret HRES.out.symm, HB3.out⟩
    · skip
      cases NB
      · have HRES : Hid (r.right = false) := by show _ = _; rw [HRQ.out]; first | rfl | simp
        clear HRQ
        go_enter Tryd.func22, Tryd.ntmps22
        go_upto_region 1 with fail
        generalize w.alloc (.cells (recA r s) 42) = w1 at *
        obtain ⟨a0, a1, a2, a3, a20, _, _, _, _⟩ := HCC.out
        go_wp2_with (first
          | ((with_reducible refine wpAt 7 ?_); refine wpList_load_mid rfl 40 _ rfl w.heap.size 4 rfl (idA r.hint).toList _ HCC.out.rh Tryd.underlying40 rfl (by rw [Array.length_toList]; exact sizeH _ HW.out.hint) ?_)
          | ((with_reducible refine wpAt 8 ?_); refine Rdr.wpList_build rfl 40 _ rfl [] rfl _ build_h0 ?_)
          | ((with_reducible refine wpAt 15 ?_); refine wpList_load_mid rfl 26 _ rfl w.heap.size 21 rfl (r.blkA s).toList _ HCC.out.rb Tryd.underlying26 rfl (by rw [Array.length_toList, infoBlk _ rfl, rblk_size HW.out]) ?_)
          | ((with_reducible refine wpAt 16 ?_); refine Rdr.wpList_build rfl 26 _ rfl [] rfl _ build_b0 ?_))
        try rw [Array.toArray_toList]
        refine HNB.out.mono ?_
        rintro e w3 ⟨rfl, hb3⟩
        clear a0 a1 a2 a3 a20
        have HC3 := Lib.hid (rec_cells HW.out (Below.keepOld hb3 HRW.out))
        have HR3 := Lib.hid (HRA.out.below hb3)
        obtain ⟨a0, a1, a2, a3, a20, _, _, _, _⟩ := HC3.out
        have HB3 := Lib.hid (HB1.out.trans (hb3.mono HB1.out.size))
        clear hb3
        go_wp2_with fail
        go_ret
        exact ⟨bret HRES.out.symm, HB3.out⟩
      · skip
        cases B6
        · have HRES : Hid (r.right = false) := by show _ = _; rw [HRQ.out]; first | rfl | simp
          clear HRQ
          go_enter Tryd.func22, Tryd.ntmps22
          go_upto_region 1 with fail
          generalize w.alloc (.cells (recA r s) 42) = w1 at *
          obtain ⟨a0, a1, a2, a3, a20, _, _, _, _⟩ := HCC.out
          go_wp2_with (first
            | ((with_reducible refine wpAt 7 ?_); refine wpList_load_mid rfl 40 _ rfl w.heap.size 4 rfl (idA r.hint).toList _ HCC.out.rh Tryd.underlying40 rfl (by rw [Array.length_toList]; exact sizeH _ HW.out.hint) ?_)
            | ((with_reducible refine wpAt 8 ?_); refine Rdr.wpList_build rfl 40 _ rfl [] rfl _ build_h0 ?_)
            | ((with_reducible refine wpAt 15 ?_); refine wpList_load_mid rfl 26 _ rfl w.heap.size 21 rfl (r.blkA s).toList _ HCC.out.rb Tryd.underlying26 rfl (by rw [Array.length_toList, infoBlk _ rfl, rblk_size HW.out]) ?_)
            | ((with_reducible refine wpAt 16 ?_); refine Rdr.wpList_build rfl 26 _ rfl [] rfl _ build_b0 ?_))
          try rw [Array.toArray_toList]
          refine HNB.out.mono ?_
          rintro e w3 ⟨rfl, hb3⟩
          clear a0 a1 a2 a3 a20
          have HC3 := Lib.hid (rec_cells HW.out (Below.keepOld hb3 HRW.out))
          have HR3 := Lib.hid (HRA.out.below hb3)
          obtain ⟨a0, a1, a2, a3, a20, _, _, _, _⟩ := HC3.out
          have HB3 := Lib.hid (HB1.out.trans (hb3.mono HB1.out.size))
          clear hb3
          go_wp2_with fail
          go_ret
          exact ⟨bret HRES.out.symm, HB3.out⟩
        · skip
          have HRES : Hid (r.right = true) := by show _ = _; rw [HRQ.out]; first | rfl | simp
          clear HRQ
          go_enter Tryd.func22, Tryd.ntmps22
          go_upto_region 1 with fail
          generalize w.alloc (.cells (recA r s) 42) = w1 at *
          obtain ⟨a0, a1, a2, a3, a20, _, _, _, _⟩ := HCC.out
          go_wp2_with (first
            | ((with_reducible refine wpAt 7 ?_); refine wpList_load_mid rfl 40 _ rfl w.heap.size 4 rfl (idA r.hint).toList _ HCC.out.rh Tryd.underlying40 rfl (by rw [Array.length_toList]; exact sizeH _ HW.out.hint) ?_)
            | ((with_reducible refine wpAt 8 ?_); refine Rdr.wpList_build rfl 40 _ rfl [] rfl _ build_h0 ?_)
            | ((with_reducible refine wpAt 15 ?_); refine wpList_load_mid rfl 26 _ rfl w.heap.size 21 rfl (r.blkA s).toList _ HCC.out.rb Tryd.underlying26 rfl (by rw [Array.length_toList, infoBlk _ rfl, rblk_size HW.out]) ?_)
            | ((with_reducible refine wpAt 16 ?_); refine Rdr.wpList_build rfl 26 _ rfl [] rfl _ build_b0 ?_))
          try rw [Array.toArray_toList]
          refine HNB.out.mono ?_
          rintro e w3 ⟨rfl, hb3⟩
          clear a0 a1 a2 a3 a20
          have HC3 := Lib.hid (rec_cells HW.out (Below.keepOld hb3 HRW.out))
          have HR3 := Lib.hid (HRA.out.below hb3)
          obtain ⟨a0, a1, a2, a3, a20, _, _, _, _⟩ := HC3.out
          have HB3 := Lib.hid (HB1.out.trans (hb3.mono HB1.out.size))
          clear hb3
          go_wp2_with fail
          go_ret
          exact ⟨bret HRES.out.symm, HB3.out⟩
  have t2 : (r.kind == 2) = false := by rw [beq_eq_false_iff_ne]; exact h2
  by_cases h4 : r.kind = 4
  · have t4 : (r.kind == 4) = true := by rw [beq_iff_eq]; exact h4
    have hrq := right4 h4
    rw [hQ0, hSQ, hHT, hBL, hNB] at hrq
    have HRQ := Lib.hid hrq
    clear hrq hNB h4 h1 h2
    cases Q0
    · have HRES : Hid (r.right = false) := by show _ = _; rw [HRQ.out]; first | rfl | simp
      clear HRQ
      go_enter Tryd.func22, Tryd.ntmps22
      go_upto_region 1 with fail
      generalize w.alloc (.cells (recA r s) 42) = w1 at *
      obtain ⟨a0, a1, a2, a3, a20, _, _, _, _⟩ := HCC.out
      go_wp2_with (first
        | ((with_reducible refine wpAt 7 ?_); refine wpList_load_mid rfl 40 _ rfl w.heap.size 4 rfl (idA r.hint).toList _ HCC.out.rh Tryd.underlying40 rfl (by rw [Array.length_toList]; exact sizeH _ HW.out.hint) ?_)
        | ((with_reducible refine wpAt 8 ?_); refine Rdr.wpList_build rfl 40 _ rfl [] rfl _ build_h0 ?_)
        | ((with_reducible refine wpAt 15 ?_); refine wpList_load_mid rfl 26 _ rfl w.heap.size 21 rfl (r.blkA s).toList _ HCC.out.rb Tryd.underlying26 rfl (by rw [Array.length_toList, infoBlk _ rfl, rblk_size HW.out]) ?_)
        | ((with_reducible refine wpAt 16 ?_); refine Rdr.wpList_build rfl 26 _ rfl [] rfl _ build_b0 ?_))
      try rw [Array.toArray_toList]
      refine HNB.out.mono ?_
      rintro e w3 ⟨rfl, hb3⟩
      clear a0 a1 a2 a3 a20
      have HC3 := Lib.hid (rec_cells HW.out (Below.keepOld hb3 HRW.out))
      have HR3 := Lib.hid (HRA.out.below hb3)
      obtain ⟨a0, a1, a2, a3, a20, _, _, _, _⟩ := HC3.out
      have HB3 := Lib.hid (HB1.out.trans (hb3.mono HB1.out.size))
      clear hb3
      go_wp2_with fail
      go_ret
      exact ⟨bret HRES.out.symm, HB3.out⟩
    · skip
      cases SQ
      · have HRES : Hid (r.right = false) := by show _ = _; rw [HRQ.out]; first | rfl | simp
        clear HRQ
        go_enter Tryd.func22, Tryd.ntmps22
        go_upto_region 1 with fail
        generalize w.alloc (.cells (recA r s) 42) = w1 at *
        obtain ⟨a0, a1, a2, a3, a20, _, _, _, _⟩ := HCC.out
        go_wp2_with (first
          | ((with_reducible refine wpAt 7 ?_); refine wpList_load_mid rfl 40 _ rfl w.heap.size 4 rfl (idA r.hint).toList _ HCC.out.rh Tryd.underlying40 rfl (by rw [Array.length_toList]; exact sizeH _ HW.out.hint) ?_)
          | ((with_reducible refine wpAt 8 ?_); refine Rdr.wpList_build rfl 40 _ rfl [] rfl _ build_h0 ?_)
          | ((with_reducible refine wpAt 15 ?_); refine wpList_load_mid rfl 26 _ rfl w.heap.size 21 rfl (r.blkA s).toList _ HCC.out.rb Tryd.underlying26 rfl (by rw [Array.length_toList, infoBlk _ rfl, rblk_size HW.out]) ?_)
          | ((with_reducible refine wpAt 16 ?_); refine Rdr.wpList_build rfl 26 _ rfl [] rfl _ build_b0 ?_))
        try rw [Array.toArray_toList]
        refine HNB.out.mono ?_
        rintro e w3 ⟨rfl, hb3⟩
        clear a0 a1 a2 a3 a20
        have HC3 := Lib.hid (rec_cells HW.out (Below.keepOld hb3 HRW.out))
        have HR3 := Lib.hid (HRA.out.below hb3)
        obtain ⟨a0, a1, a2, a3, a20, _, _, _, _⟩ := HC3.out
        have HB3 := Lib.hid (HB1.out.trans (hb3.mono HB1.out.size))
        clear hb3
        go_wp2_with fail
        go_ret
        exact ⟨bret HRES.out.symm, HB3.out⟩
      · skip
        cases HT
        · have HRES : Hid (r.right = false) := by show _ = _; rw [HRQ.out]; first | rfl | simp
          clear HRQ
          go_enter Tryd.func22, Tryd.ntmps22
          go_upto_region 1 with fail
          generalize w.alloc (.cells (recA r s) 42) = w1 at *
          obtain ⟨a0, a1, a2, a3, a20, _, _, _, _⟩ := HCC.out
          go_wp2_with (first
            | ((with_reducible refine wpAt 7 ?_); refine wpList_load_mid rfl 40 _ rfl w.heap.size 4 rfl (idA r.hint).toList _ HCC.out.rh Tryd.underlying40 rfl (by rw [Array.length_toList]; exact sizeH _ HW.out.hint) ?_)
            | ((with_reducible refine wpAt 8 ?_); refine Rdr.wpList_build rfl 40 _ rfl [] rfl _ build_h0 ?_)
            | ((with_reducible refine wpAt 15 ?_); refine wpList_load_mid rfl 26 _ rfl w.heap.size 21 rfl (r.blkA s).toList _ HCC.out.rb Tryd.underlying26 rfl (by rw [Array.length_toList, infoBlk _ rfl, rblk_size HW.out]) ?_)
            | ((with_reducible refine wpAt 16 ?_); refine Rdr.wpList_build rfl 26 _ rfl [] rfl _ build_b0 ?_))
          try rw [Array.toArray_toList]
          refine HNB.out.mono ?_
          rintro e w3 ⟨rfl, hb3⟩
          clear a0 a1 a2 a3 a20
          have HC3 := Lib.hid (rec_cells HW.out (Below.keepOld hb3 HRW.out))
          have HR3 := Lib.hid (HRA.out.below hb3)
          obtain ⟨a0, a1, a2, a3, a20, _, _, _, _⟩ := HC3.out
          have HB3 := Lib.hid (HB1.out.trans (hb3.mono HB1.out.size))
          clear hb3
          go_wp2_with fail
          go_ret
          exact ⟨bret HRES.out.symm, HB3.out⟩
        · skip
          cases BL
          · have HRES : Hid (r.right = false) := by show _ = _; rw [HRQ.out]; first | rfl | simp
            clear HRQ
            go_enter Tryd.func22, Tryd.ntmps22
            go_upto_region 1 with fail
            generalize w.alloc (.cells (recA r s) 42) = w1 at *
            obtain ⟨a0, a1, a2, a3, a20, _, _, _, _⟩ := HCC.out
            go_wp2_with (first
              | ((with_reducible refine wpAt 7 ?_); refine wpList_load_mid rfl 40 _ rfl w.heap.size 4 rfl (idA r.hint).toList _ HCC.out.rh Tryd.underlying40 rfl (by rw [Array.length_toList]; exact sizeH _ HW.out.hint) ?_)
              | ((with_reducible refine wpAt 8 ?_); refine Rdr.wpList_build rfl 40 _ rfl [] rfl _ build_h0 ?_)
              | ((with_reducible refine wpAt 15 ?_); refine wpList_load_mid rfl 26 _ rfl w.heap.size 21 rfl (r.blkA s).toList _ HCC.out.rb Tryd.underlying26 rfl (by rw [Array.length_toList, infoBlk _ rfl, rblk_size HW.out]) ?_)
              | ((with_reducible refine wpAt 16 ?_); refine Rdr.wpList_build rfl 26 _ rfl [] rfl _ build_b0 ?_))
            try rw [Array.toArray_toList]
            refine HNB.out.mono ?_
            rintro e w3 ⟨rfl, hb3⟩
            clear a0 a1 a2 a3 a20
            have HC3 := Lib.hid (rec_cells HW.out (Below.keepOld hb3 HRW.out))
            have HR3 := Lib.hid (HRA.out.below hb3)
            obtain ⟨a0, a1, a2, a3, a20, _, _, _, _⟩ := HC3.out
            have HB3 := Lib.hid (HB1.out.trans (hb3.mono HB1.out.size))
            clear hb3
            go_wp2_with fail
            go_ret
            exact ⟨bret HRES.out.symm, HB3.out⟩
          · skip
            cases NB
            · have HRES : Hid (r.right = false) := by show _ = _; rw [HRQ.out]; first | rfl | simp
              clear HRQ
              go_enter Tryd.func22, Tryd.ntmps22
              go_upto_region 1 with fail
              generalize w.alloc (.cells (recA r s) 42) = w1 at *
              obtain ⟨a0, a1, a2, a3, a20, _, _, _, _⟩ := HCC.out
              go_wp2_with (first
                | ((with_reducible refine wpAt 7 ?_); refine wpList_load_mid rfl 40 _ rfl w.heap.size 4 rfl (idA r.hint).toList _ HCC.out.rh Tryd.underlying40 rfl (by rw [Array.length_toList]; exact sizeH _ HW.out.hint) ?_)
                | ((with_reducible refine wpAt 8 ?_); refine Rdr.wpList_build rfl 40 _ rfl [] rfl _ build_h0 ?_)
                | ((with_reducible refine wpAt 15 ?_); refine wpList_load_mid rfl 26 _ rfl w.heap.size 21 rfl (r.blkA s).toList _ HCC.out.rb Tryd.underlying26 rfl (by rw [Array.length_toList, infoBlk _ rfl, rblk_size HW.out]) ?_)
                | ((with_reducible refine wpAt 16 ?_); refine Rdr.wpList_build rfl 26 _ rfl [] rfl _ build_b0 ?_))
              try rw [Array.toArray_toList]
              refine HNB.out.mono ?_
              rintro e w3 ⟨rfl, hb3⟩
              clear a0 a1 a2 a3 a20
              have HC3 := Lib.hid (rec_cells HW.out (Below.keepOld hb3 HRW.out))
              have HR3 := Lib.hid (HRA.out.below hb3)
              obtain ⟨a0, a1, a2, a3, a20, _, _, _, _⟩ := HC3.out
              have HB3 := Lib.hid (HB1.out.trans (hb3.mono HB1.out.size))
              clear hb3
              go_wp2_with fail
              go_ret
              exact ⟨bret HRES.out.symm, HB3.out⟩
            · skip
              have HRES : Hid (r.right = true) := by show _ = _; rw [HRQ.out]; first | rfl | simp
              clear HRQ
              go_enter Tryd.func22, Tryd.ntmps22
              go_upto_region 1 with fail
              generalize w.alloc (.cells (recA r s) 42) = w1 at *
              obtain ⟨a0, a1, a2, a3, a20, _, _, _, _⟩ := HCC.out
              go_wp2_with (first
                | ((with_reducible refine wpAt 7 ?_); refine wpList_load_mid rfl 40 _ rfl w.heap.size 4 rfl (idA r.hint).toList _ HCC.out.rh Tryd.underlying40 rfl (by rw [Array.length_toList]; exact sizeH _ HW.out.hint) ?_)
                | ((with_reducible refine wpAt 8 ?_); refine Rdr.wpList_build rfl 40 _ rfl [] rfl _ build_h0 ?_)
                | ((with_reducible refine wpAt 15 ?_); refine wpList_load_mid rfl 26 _ rfl w.heap.size 21 rfl (r.blkA s).toList _ HCC.out.rb Tryd.underlying26 rfl (by rw [Array.length_toList, infoBlk _ rfl, rblk_size HW.out]) ?_)
                | ((with_reducible refine wpAt 16 ?_); refine Rdr.wpList_build rfl 26 _ rfl [] rfl _ build_b0 ?_))
              try rw [Array.toArray_toList]
              refine HNB.out.mono ?_
              rintro e w3 ⟨rfl, hb3⟩
              clear a0 a1 a2 a3 a20
              have HC3 := Lib.hid (rec_cells HW.out (Below.keepOld hb3 HRW.out))
              have HR3 := Lib.hid (HRA.out.below hb3)
              obtain ⟨a0, a1, a2, a3, a20, _, _, _, _⟩ := HC3.out
              have HB3 := Lib.hid (HB1.out.trans (hb3.mono HB1.out.size))
              clear hb3
              go_wp2_with fail
              go_ret
              exact ⟨bret HRES.out.symm, HB3.out⟩
  have t4 : (r.kind == 4) = false := by rw [beq_eq_false_iff_ne]; exact h4
  by_cases h5 : r.kind = 5
  · have t5 : (r.kind == 5) = true := by rw [beq_iff_eq]; exact h5
    have hrq := right5 h5
    rw [hS0, hQ0, hSQ, hHT, hBL] at hrq
    have HRQ := Lib.hid hrq
    clear hrq hNB h5 h1 h2 h4
    cases S0
    · have HRES : Hid (r.right = false) := by show _ = _; rw [HRQ.out]; first | rfl | simp
      clear HRQ
      go_enter Tryd.func22, Tryd.ntmps22
      go_upto_region 1 with fail
      generalize w.alloc (.cells (recA r s) 42) = w1 at *
      obtain ⟨a0, a1, a2, a3, a20, _, _, _, _⟩ := HCC.out
      go_wp2_with (first
        | ((with_reducible refine wpAt 7 ?_); refine wpList_load_mid rfl 40 _ rfl w.heap.size 4 rfl (idA r.hint).toList _ HCC.out.rh Tryd.underlying40 rfl (by rw [Array.length_toList]; exact sizeH _ HW.out.hint) ?_)
        | ((with_reducible refine wpAt 8 ?_); refine Rdr.wpList_build rfl 40 _ rfl [] rfl _ build_h0 ?_)
        | ((with_reducible refine wpAt 15 ?_); refine wpList_load_mid rfl 26 _ rfl w.heap.size 21 rfl (r.blkA s).toList _ HCC.out.rb Tryd.underlying26 rfl (by rw [Array.length_toList, infoBlk _ rfl, rblk_size HW.out]) ?_)
        | ((with_reducible refine wpAt 16 ?_); refine Rdr.wpList_build rfl 26 _ rfl [] rfl _ build_b0 ?_))
      try rw [Array.toArray_toList]
      refine HNB.out.mono ?_
      rintro e w3 ⟨rfl, hb3⟩
      clear a0 a1 a2 a3 a20
      have HC3 := Lib.hid (rec_cells HW.out (Below.keepOld hb3 HRW.out))
      have HR3 := Lib.hid (HRA.out.below hb3)
      obtain ⟨a0, a1, a2, a3, a20, _, _, _, _⟩ := HC3.out
      have HB3 := Lib.hid (HB1.out.trans (hb3.mono HB1.out.size))
      clear hb3
      go_wp2_with fail
      go_ret
      exact ⟨bret HRES.out.symm, HB3.out⟩
    · skip
      cases Q0
      · have HRES : Hid (r.right = false) := by show _ = _; rw [HRQ.out]; first | rfl | simp
        clear HRQ
        go_enter Tryd.func22, Tryd.ntmps22
        go_upto_region 1 with fail
        generalize w.alloc (.cells (recA r s) 42) = w1 at *
        obtain ⟨a0, a1, a2, a3, a20, _, _, _, _⟩ := HCC.out
        go_wp2_with (first
          | ((with_reducible refine wpAt 7 ?_); refine wpList_load_mid rfl 40 _ rfl w.heap.size 4 rfl (idA r.hint).toList _ HCC.out.rh Tryd.underlying40 rfl (by rw [Array.length_toList]; exact sizeH _ HW.out.hint) ?_)
          | ((with_reducible refine wpAt 8 ?_); refine Rdr.wpList_build rfl 40 _ rfl [] rfl _ build_h0 ?_)
          | ((with_reducible refine wpAt 15 ?_); refine wpList_load_mid rfl 26 _ rfl w.heap.size 21 rfl (r.blkA s).toList _ HCC.out.rb Tryd.underlying26 rfl (by rw [Array.length_toList, infoBlk _ rfl, rblk_size HW.out]) ?_)
          | ((with_reducible refine wpAt 16 ?_); refine Rdr.wpList_build rfl 26 _ rfl [] rfl _ build_b0 ?_))
        try rw [Array.toArray_toList]
        refine HNB.out.mono ?_
        rintro e w3 ⟨rfl, hb3⟩
        clear a0 a1 a2 a3 a20
        have HC3 := Lib.hid (rec_cells HW.out (Below.keepOld hb3 HRW.out))
        have HR3 := Lib.hid (HRA.out.below hb3)
        obtain ⟨a0, a1, a2, a3, a20, _, _, _, _⟩ := HC3.out
        have HB3 := Lib.hid (HB1.out.trans (hb3.mono HB1.out.size))
        clear hb3
        go_wp2_with fail
        go_ret
        exact ⟨bret HRES.out.symm, HB3.out⟩
      · skip
        cases SQ
        · have HRES : Hid (r.right = false) := by show _ = _; rw [HRQ.out]; first | rfl | simp
          clear HRQ
          go_enter Tryd.func22, Tryd.ntmps22
          go_upto_region 1 with fail
          generalize w.alloc (.cells (recA r s) 42) = w1 at *
          obtain ⟨a0, a1, a2, a3, a20, _, _, _, _⟩ := HCC.out
          go_wp2_with (first
            | ((with_reducible refine wpAt 7 ?_); refine wpList_load_mid rfl 40 _ rfl w.heap.size 4 rfl (idA r.hint).toList _ HCC.out.rh Tryd.underlying40 rfl (by rw [Array.length_toList]; exact sizeH _ HW.out.hint) ?_)
            | ((with_reducible refine wpAt 8 ?_); refine Rdr.wpList_build rfl 40 _ rfl [] rfl _ build_h0 ?_)
            | ((with_reducible refine wpAt 15 ?_); refine wpList_load_mid rfl 26 _ rfl w.heap.size 21 rfl (r.blkA s).toList _ HCC.out.rb Tryd.underlying26 rfl (by rw [Array.length_toList, infoBlk _ rfl, rblk_size HW.out]) ?_)
            | ((with_reducible refine wpAt 16 ?_); refine Rdr.wpList_build rfl 26 _ rfl [] rfl _ build_b0 ?_))
          try rw [Array.toArray_toList]
          refine HNB.out.mono ?_
          rintro e w3 ⟨rfl, hb3⟩
          clear a0 a1 a2 a3 a20
          have HC3 := Lib.hid (rec_cells HW.out (Below.keepOld hb3 HRW.out))
          have HR3 := Lib.hid (HRA.out.below hb3)
          obtain ⟨a0, a1, a2, a3, a20, _, _, _, _⟩ := HC3.out
          have HB3 := Lib.hid (HB1.out.trans (hb3.mono HB1.out.size))
          clear hb3
          go_wp2_with fail
          go_ret
          exact ⟨bret HRES.out.symm, HB3.out⟩
        · skip
          cases HT
          · have HRES : Hid (r.right = false) := by show _ = _; rw [HRQ.out]; first | rfl | simp
            clear HRQ
            go_enter Tryd.func22, Tryd.ntmps22
            go_upto_region 1 with fail
            generalize w.alloc (.cells (recA r s) 42) = w1 at *
            obtain ⟨a0, a1, a2, a3, a20, _, _, _, _⟩ := HCC.out
            go_wp2_with (first
              | ((with_reducible refine wpAt 7 ?_); refine wpList_load_mid rfl 40 _ rfl w.heap.size 4 rfl (idA r.hint).toList _ HCC.out.rh Tryd.underlying40 rfl (by rw [Array.length_toList]; exact sizeH _ HW.out.hint) ?_)
              | ((with_reducible refine wpAt 8 ?_); refine Rdr.wpList_build rfl 40 _ rfl [] rfl _ build_h0 ?_)
              | ((with_reducible refine wpAt 15 ?_); refine wpList_load_mid rfl 26 _ rfl w.heap.size 21 rfl (r.blkA s).toList _ HCC.out.rb Tryd.underlying26 rfl (by rw [Array.length_toList, infoBlk _ rfl, rblk_size HW.out]) ?_)
              | ((with_reducible refine wpAt 16 ?_); refine Rdr.wpList_build rfl 26 _ rfl [] rfl _ build_b0 ?_))
            try rw [Array.toArray_toList]
            refine HNB.out.mono ?_
            rintro e w3 ⟨rfl, hb3⟩
            clear a0 a1 a2 a3 a20
            have HC3 := Lib.hid (rec_cells HW.out (Below.keepOld hb3 HRW.out))
            have HR3 := Lib.hid (HRA.out.below hb3)
            obtain ⟨a0, a1, a2, a3, a20, _, _, _, _⟩ := HC3.out
            have HB3 := Lib.hid (HB1.out.trans (hb3.mono HB1.out.size))
            clear hb3
            go_wp2_with fail
            go_ret
            exact ⟨bret HRES.out.symm, HB3.out⟩
          · skip
            cases BL
            · have HRES : Hid (r.right = false) := by show _ = _; rw [HRQ.out]; first | rfl | simp
              clear HRQ
              go_enter Tryd.func22, Tryd.ntmps22
              go_upto_region 1 with fail
              generalize w.alloc (.cells (recA r s) 42) = w1 at *
              obtain ⟨a0, a1, a2, a3, a20, _, _, _, _⟩ := HCC.out
              go_wp2_with (first
                | ((with_reducible refine wpAt 7 ?_); refine wpList_load_mid rfl 40 _ rfl w.heap.size 4 rfl (idA r.hint).toList _ HCC.out.rh Tryd.underlying40 rfl (by rw [Array.length_toList]; exact sizeH _ HW.out.hint) ?_)
                | ((with_reducible refine wpAt 8 ?_); refine Rdr.wpList_build rfl 40 _ rfl [] rfl _ build_h0 ?_)
                | ((with_reducible refine wpAt 15 ?_); refine wpList_load_mid rfl 26 _ rfl w.heap.size 21 rfl (r.blkA s).toList _ HCC.out.rb Tryd.underlying26 rfl (by rw [Array.length_toList, infoBlk _ rfl, rblk_size HW.out]) ?_)
                | ((with_reducible refine wpAt 16 ?_); refine Rdr.wpList_build rfl 26 _ rfl [] rfl _ build_b0 ?_))
              try rw [Array.toArray_toList]
              refine HNB.out.mono ?_
              rintro e w3 ⟨rfl, hb3⟩
              clear a0 a1 a2 a3 a20
              have HC3 := Lib.hid (rec_cells HW.out (Below.keepOld hb3 HRW.out))
              have HR3 := Lib.hid (HRA.out.below hb3)
              obtain ⟨a0, a1, a2, a3, a20, _, _, _, _⟩ := HC3.out
              have HB3 := Lib.hid (HB1.out.trans (hb3.mono HB1.out.size))
              clear hb3
              go_wp2_with fail
              go_ret
              exact ⟨bret HRES.out.symm, HB3.out⟩
            · skip
              have HRES : Hid (r.right = rightB r.blk) := by show _ = _; rw [HRQ.out]; first | rfl | simp
              clear HRQ
              go_enter Tryd.func22, Tryd.ntmps22
              go_upto_region 1 with fail
              generalize w.alloc (.cells (recA r s) 42) = w1 at *
              obtain ⟨a0, a1, a2, a3, a20, _, _, _, _⟩ := HCC.out
              go_wp2_with (first
                | ((with_reducible refine wpAt 7 ?_); refine wpList_load_mid rfl 40 _ rfl w.heap.size 4 rfl (idA r.hint).toList _ HCC.out.rh Tryd.underlying40 rfl (by rw [Array.length_toList]; exact sizeH _ HW.out.hint) ?_)
                | ((with_reducible refine wpAt 8 ?_); refine Rdr.wpList_build rfl 40 _ rfl [] rfl _ build_h0 ?_)
                | ((with_reducible refine wpAt 15 ?_); refine wpList_load_mid rfl 26 _ rfl w.heap.size 21 rfl (r.blkA s).toList _ HCC.out.rb Tryd.underlying26 rfl (by rw [Array.length_toList, infoBlk _ rfl, rblk_size HW.out]) ?_)
                | ((with_reducible refine wpAt 16 ?_); refine Rdr.wpList_build rfl 26 _ rfl [] rfl _ build_b0 ?_))
              try rw [Array.toArray_toList]
              refine HNB.out.mono ?_
              rintro e w3 ⟨rfl, hb3⟩
              clear a0 a1 a2 a3 a20
              have HC3 := Lib.hid (rec_cells HW.out (Below.keepOld hb3 HRW.out))
              have HR3 := Lib.hid (HRA.out.below hb3)
              obtain ⟨a0, a1, a2, a3, a20, _, _, _, _⟩ := HC3.out
              have HB3 := Lib.hid (HB1.out.trans (hb3.mono HB1.out.size))
              clear hb3
              go_wp2_with ((with_reducible refine wpAt 100 ?_); refine wpList_unguard (by rfl) ?_; refine wpList_load_mid rfl 26 _ rfl w.heap.size 21 rfl (r.blkA s).toList _ HC3.out.rb Tryd.underlying26 rfl (by rw [Array.length_toList, infoBlk _ rfl, rblk_size HW.out]) ?_)
              try rw [Array.toArray_toList]
              refine (Blk.rRight_any _ _ _ _ _ _ HR3.out.blkAt).mono ?_
              rintro e w4 ⟨rfl, hb4⟩
              have HB4 := Lib.hid (HB3.out.trans (hb4.mono HB3.out.size))
              clear hb4
              go_wp2_with fail
              go_ret
              exact ⟨bret HRES.out.symm, HB4.out⟩
  have t5 : (r.kind == 5) = false := by rw [beq_eq_false_iff_ne]; exact h5
  by_cases h6 : r.kind = 6
  · have t6 : (r.kind == 6) = true := by rw [beq_iff_eq]; exact h6
    have hrq := right6 h6
    rw [hS0, hQ0, hSQ, hHT, hBL] at hrq
    have HRQ := Lib.hid hrq
    clear hrq hNB h6 h1 h2 h4 h5
    cases S0
    · have HRES : Hid (r.right = false) := by show _ = _; rw [HRQ.out]; first | rfl | simp
      clear HRQ
      go_enter Tryd.func22, Tryd.ntmps22
      go_upto_region 1 with fail
      generalize w.alloc (.cells (recA r s) 42) = w1 at *
      obtain ⟨a0, a1, a2, a3, a20, _, _, _, _⟩ := HCC.out
      go_wp2_with (first
        | ((with_reducible refine wpAt 7 ?_); refine wpList_load_mid rfl 40 _ rfl w.heap.size 4 rfl (idA r.hint).toList _ HCC.out.rh Tryd.underlying40 rfl (by rw [Array.length_toList]; exact sizeH _ HW.out.hint) ?_)
        | ((with_reducible refine wpAt 8 ?_); refine Rdr.wpList_build rfl 40 _ rfl [] rfl _ build_h0 ?_)
        | ((with_reducible refine wpAt 15 ?_); refine wpList_load_mid rfl 26 _ rfl w.heap.size 21 rfl (r.blkA s).toList _ HCC.out.rb Tryd.underlying26 rfl (by rw [Array.length_toList, infoBlk _ rfl, rblk_size HW.out]) ?_)
        | ((with_reducible refine wpAt 16 ?_); refine Rdr.wpList_build rfl 26 _ rfl [] rfl _ build_b0 ?_))
      try rw [Array.toArray_toList]
      refine HNB.out.mono ?_
      rintro e w3 ⟨rfl, hb3⟩
      clear a0 a1 a2 a3 a20
      have HC3 := Lib.hid (rec_cells HW.out (Below.keepOld hb3 HRW.out))
      have HR3 := Lib.hid (HRA.out.below hb3)
      obtain ⟨a0, a1, a2, a3, a20, _, _, _, _⟩ := HC3.out
      have HB3 := Lib.hid (HB1.out.trans (hb3.mono HB1.out.size))
      clear hb3
      go_wp2_with fail
      go_ret
      exact ⟨bret HRES.out.symm, HB3.out⟩
    · skip
      cases Q0
      · have HRES : Hid (r.right = false) := by show _ = _; rw [HRQ.out]; first | rfl | simp
        clear HRQ
        go_enter Tryd.func22, Tryd.ntmps22
        go_upto_region 1 with fail
        generalize w.alloc (.cells (recA r s) 42) = w1 at *
        obtain ⟨a0, a1, a2, a3, a20, _, _, _, _⟩ := HCC.out
        go_wp2_with (first
          | ((with_reducible refine wpAt 7 ?_); refine wpList_load_mid rfl 40 _ rfl w.heap.size 4 rfl (idA r.hint).toList _ HCC.out.rh Tryd.underlying40 rfl (by rw [Array.length_toList]; exact sizeH _ HW.out.hint) ?_)
          | ((with_reducible refine wpAt 8 ?_); refine Rdr.wpList_build rfl 40 _ rfl [] rfl _ build_h0 ?_)
          | ((with_reducible refine wpAt 15 ?_); refine wpList_load_mid rfl 26 _ rfl w.heap.size 21 rfl (r.blkA s).toList _ HCC.out.rb Tryd.underlying26 rfl (by rw [Array.length_toList, infoBlk _ rfl, rblk_size HW.out]) ?_)
          | ((with_reducible refine wpAt 16 ?_); refine Rdr.wpList_build rfl 26 _ rfl [] rfl _ build_b0 ?_))
        try rw [Array.toArray_toList]
        refine HNB.out.mono ?_
        rintro e w3 ⟨rfl, hb3⟩
        clear a0 a1 a2 a3 a20
        have HC3 := Lib.hid (rec_cells HW.out (Below.keepOld hb3 HRW.out))
        have HR3 := Lib.hid (HRA.out.below hb3)
        obtain ⟨a0, a1, a2, a3, a20, _, _, _, _⟩ := HC3.out
        have HB3 := Lib.hid (HB1.out.trans (hb3.mono HB1.out.size))
        clear hb3
        go_wp2_with fail
        go_ret
        exact ⟨bret HRES.out.symm, HB3.out⟩
      · skip
        cases SQ
        · have HRES : Hid (r.right = false) := by show _ = _; rw [HRQ.out]; first | rfl | simp
          clear HRQ
          go_enter Tryd.func22, Tryd.ntmps22
          go_upto_region 1 with fail
          generalize w.alloc (.cells (recA r s) 42) = w1 at *
          obtain ⟨a0, a1, a2, a3, a20, _, _, _, _⟩ := HCC.out
          go_wp2_with (first
            | ((with_reducible refine wpAt 7 ?_); refine wpList_load_mid rfl 40 _ rfl w.heap.size 4 rfl (idA r.hint).toList _ HCC.out.rh Tryd.underlying40 rfl (by rw [Array.length_toList]; exact sizeH _ HW.out.hint) ?_)
            | ((with_reducible refine wpAt 8 ?_); refine Rdr.wpList_build rfl 40 _ rfl [] rfl _ build_h0 ?_)
            | ((with_reducible refine wpAt 15 ?_); refine wpList_load_mid rfl 26 _ rfl w.heap.size 21 rfl (r.blkA s).toList _ HCC.out.rb Tryd.underlying26 rfl (by rw [Array.length_toList, infoBlk _ rfl, rblk_size HW.out]) ?_)
            | ((with_reducible refine wpAt 16 ?_); refine Rdr.wpList_build rfl 26 _ rfl [] rfl _ build_b0 ?_))
          try rw [Array.toArray_toList]
          refine HNB.out.mono ?_
          rintro e w3 ⟨rfl, hb3⟩
          clear a0 a1 a2 a3 a20
          have HC3 := Lib.hid (rec_cells HW.out (Below.keepOld hb3 HRW.out))
          have HR3 := Lib.hid (HRA.out.below hb3)
          obtain ⟨a0, a1, a2, a3, a20, _, _, _, _⟩ := HC3.out
          have HB3 := Lib.hid (HB1.out.trans (hb3.mono HB1.out.size))
          clear hb3
          go_wp2_with fail
          go_ret
          exact ⟨bret HRES.out.symm, HB3.out⟩
        · skip
          cases HT
          · have HRES : Hid (r.right = false) := by show _ = _; rw [HRQ.out]; first | rfl | simp
            clear HRQ
            go_enter Tryd.func22, Tryd.ntmps22
            go_upto_region 1 with fail
            generalize w.alloc (.cells (recA r s) 42) = w1 at *
            obtain ⟨a0, a1, a2, a3, a20, _, _, _, _⟩ := HCC.out
            go_wp2_with (first
              | ((with_reducible refine wpAt 7 ?_); refine wpList_load_mid rfl 40 _ rfl w.heap.size 4 rfl (idA r.hint).toList _ HCC.out.rh Tryd.underlying40 rfl (by rw [Array.length_toList]; exact sizeH _ HW.out.hint) ?_)
              | ((with_reducible refine wpAt 8 ?_); refine Rdr.wpList_build rfl 40 _ rfl [] rfl _ build_h0 ?_)
              | ((with_reducible refine wpAt 15 ?_); refine wpList_load_mid rfl 26 _ rfl w.heap.size 21 rfl (r.blkA s).toList _ HCC.out.rb Tryd.underlying26 rfl (by rw [Array.length_toList, infoBlk _ rfl, rblk_size HW.out]) ?_)
              | ((with_reducible refine wpAt 16 ?_); refine Rdr.wpList_build rfl 26 _ rfl [] rfl _ build_b0 ?_))
            try rw [Array.toArray_toList]
            refine HNB.out.mono ?_
            rintro e w3 ⟨rfl, hb3⟩
            clear a0 a1 a2 a3 a20
            have HC3 := Lib.hid (rec_cells HW.out (Below.keepOld hb3 HRW.out))
            have HR3 := Lib.hid (HRA.out.below hb3)
            obtain ⟨a0, a1, a2, a3, a20, _, _, _, _⟩ := HC3.out
            have HB3 := Lib.hid (HB1.out.trans (hb3.mono HB1.out.size))
            clear hb3
            go_wp2_with fail
            go_ret
            exact ⟨bret HRES.out.symm, HB3.out⟩
          · skip
            cases BL
            · have HRES : Hid (r.right = false) := by show _ = _; rw [HRQ.out]; first | rfl | simp
              clear HRQ
              go_enter Tryd.func22, Tryd.ntmps22
              go_upto_region 1 with fail
              generalize w.alloc (.cells (recA r s) 42) = w1 at *
              obtain ⟨a0, a1, a2, a3, a20, _, _, _, _⟩ := HCC.out
              go_wp2_with (first
                | ((with_reducible refine wpAt 7 ?_); refine wpList_load_mid rfl 40 _ rfl w.heap.size 4 rfl (idA r.hint).toList _ HCC.out.rh Tryd.underlying40 rfl (by rw [Array.length_toList]; exact sizeH _ HW.out.hint) ?_)
                | ((with_reducible refine wpAt 8 ?_); refine Rdr.wpList_build rfl 40 _ rfl [] rfl _ build_h0 ?_)
                | ((with_reducible refine wpAt 15 ?_); refine wpList_load_mid rfl 26 _ rfl w.heap.size 21 rfl (r.blkA s).toList _ HCC.out.rb Tryd.underlying26 rfl (by rw [Array.length_toList, infoBlk _ rfl, rblk_size HW.out]) ?_)
                | ((with_reducible refine wpAt 16 ?_); refine Rdr.wpList_build rfl 26 _ rfl [] rfl _ build_b0 ?_))
              try rw [Array.toArray_toList]
              refine HNB.out.mono ?_
              rintro e w3 ⟨rfl, hb3⟩
              clear a0 a1 a2 a3 a20
              have HC3 := Lib.hid (rec_cells HW.out (Below.keepOld hb3 HRW.out))
              have HR3 := Lib.hid (HRA.out.below hb3)
              obtain ⟨a0, a1, a2, a3, a20, _, _, _, _⟩ := HC3.out
              have HB3 := Lib.hid (HB1.out.trans (hb3.mono HB1.out.size))
              clear hb3
              go_wp2_with fail
              go_ret
              exact ⟨bret HRES.out.symm, HB3.out⟩
            · skip
              have HRES : Hid (r.right = sameB r.blk ⟨r.blk.hash, zeros, []⟩) := by show _ = _; rw [HRQ.out]; first | rfl | simp
              clear HRQ
              go_enter Tryd.func22, Tryd.ntmps22
              go_upto_region 1 with fail
              generalize w.alloc (.cells (recA r s) 42) = w1 at *
              obtain ⟨a0, a1, a2, a3, a20, _, _, _, _⟩ := HCC.out
              go_wp2_with (first
                | ((with_reducible refine wpAt 7 ?_); refine wpList_load_mid rfl 40 _ rfl w.heap.size 4 rfl (idA r.hint).toList _ HCC.out.rh Tryd.underlying40 rfl (by rw [Array.length_toList]; exact sizeH _ HW.out.hint) ?_)
                | ((with_reducible refine wpAt 8 ?_); refine Rdr.wpList_build rfl 40 _ rfl [] rfl _ build_h0 ?_)
                | ((with_reducible refine wpAt 15 ?_); refine wpList_load_mid rfl 26 _ rfl w.heap.size 21 rfl (r.blkA s).toList _ HCC.out.rb Tryd.underlying26 rfl (by rw [Array.length_toList, infoBlk _ rfl, rblk_size HW.out]) ?_)
                | ((with_reducible refine wpAt 16 ?_); refine Rdr.wpList_build rfl 26 _ rfl [] rfl _ build_b0 ?_))
              try rw [Array.toArray_toList]
              refine HNB.out.mono ?_
              rintro e w3 ⟨rfl, hb3⟩
              clear a0 a1 a2 a3 a20
              have HC3 := Lib.hid (rec_cells HW.out (Below.keepOld hb3 HRW.out))
              have HR3 := Lib.hid (HRA.out.below hb3)
              obtain ⟨a0, a1, a2, a3, a20, _, _, _, _⟩ := HC3.out
              have HB3 := Lib.hid (HB1.out.trans (hb3.mono HB1.out.size))
              clear hb3
              go_wp2_with (first
                | ((with_reducible refine wpAt 126 ?_); refine wpList_unguard (by rfl) ?_; refine wpList_load_mid rfl 26 _ rfl w.heap.size 21 rfl (r.blkA s).toList _ HC3.out.rb Tryd.underlying26 rfl (by rw [Array.length_toList, infoBlk _ rfl, rblk_size HW.out]) ?_)
                | ((with_reducible refine wpAt 129 ?_); refine wpList_unguard (by rfl) ?_; refine wpList_load_mid rfl 23 _ rfl w.heap.size 21 rfl (idA r.blk.hash).toList _ HC3.out.ri Tryd.underlying23 rfl (infoI _ (by rw [Array.length_toList, idA_size, HW.out.blk.hlen])) ?_)
                | ((with_reducible refine wpAt 130 ?_); refine wpList_unguard (by rfl) ?_; refine Rdr.wpList_build rfl 26 _ rfl [(0, .agg (idA r.blk.hash))] (by first | rfl | simp) _ (build_bh _ HW.out.blk.hlen) ?_))
              try rw [Array.toArray_toList]
              refine (Blk.rSame_any _ _ r.blk ⟨r.blk.hash, zeros, []⟩ s.q none _ s.d 0 0 _ HR3.out.blkAt ⟨rfl, HW.out.blk.hlen, rfl, Is.nil _ _⟩).mono ?_
              rintro e w4 ⟨rfl, hb4⟩
              have HB4 := Lib.hid (HB3.out.trans (hb4.mono HB3.out.size))
              clear hb4
              go_wp2_with fail
              go_ret
              exact ⟨bret HRES.out.symm, HB4.out⟩
  have t6 : (r.kind == 6) = false := by rw [beq_eq_false_iff_ne]; exact h6
  have HRES : Hid (r.right = false) := right0 h1 h2 h4 h5 h6
  clear h1 h2 h4 h5 h6 hNB
  go_enter Tryd.func22, Tryd.ntmps22
  go_upto_region 1 with fail
  generalize w.alloc (.cells (recA r s) 42) = w1 at *
  obtain ⟨a0, a1, a2, a3, a20, _, _, _, _⟩ := HCC.out
  go_wp2_with (first
    | ((with_reducible refine wpAt 7 ?_); refine wpList_load_mid rfl 40 _ rfl w.heap.size 4 rfl (idA r.hint).toList _ HCC.out.rh Tryd.underlying40 rfl (by rw [Array.length_toList]; exact sizeH _ HW.out.hint) ?_)
    | ((with_reducible refine wpAt 8 ?_); refine Rdr.wpList_build rfl 40 _ rfl [] rfl _ build_h0 ?_)
    | ((with_reducible refine wpAt 15 ?_); refine wpList_load_mid rfl 26 _ rfl w.heap.size 21 rfl (r.blkA s).toList _ HCC.out.rb Tryd.underlying26 rfl (by rw [Array.length_toList, infoBlk _ rfl, rblk_size HW.out]) ?_)
    | ((with_reducible refine wpAt 16 ?_); refine Rdr.wpList_build rfl 26 _ rfl [] rfl _ build_b0 ?_))
  try rw [Array.toArray_toList]
  refine HNB.out.mono ?_
  rintro e w3 ⟨rfl, hb3⟩
  clear a0 a1 a2 a3 a20
  have HC3 := Lib.hid (rec_cells HW.out (Below.keepOld hb3 HRW.out))
  have HR3 := Lib.hid (HRA.out.below hb3)
  obtain ⟨a0, a1, a2, a3, a20, _, _, _, _⟩ := HC3.out
  have HB3 := Lib.hid (HB1.out.trans (hb3.mono HB1.out.size))
  clear hb3
  go_wp2_with fail
  go_ret
  exact ⟨bret HRES.out.symm, HB3.out⟩
end Go.Proofs.YtdaigkcbmdcbcaaDoor.Rec

namespace Go.Proofs.YtdaigkcbmdcbcaaDoor.Rec
open Go.RowKit Go.Mir Go.Mir.Parts Wr Cod Blk

def RecD.bytes (r : RecD) : List UInt8 :=
  be r.kind.toNat 1 ++ (if r.kind = 1 then be r.ses 4 ++ be r.quo 1 else if r.kind = 2 then be r.ses 4 ++ (be r.seq 4 ++ (r.hint ++ r.blob)) else if r.kind = 4 then be r.ses 4 else if r.kind = 5 then encL r.blk else r.blk.hash)
def RecD.enc (r : RecD) : List UInt8 × Int := if r.right = true then (r.bytes, 0) else ([], 1)
theorem right_kind {r : RecD} (h : r.right = true) : r.kind = 1 ∨ r.kind = 2 ∨ r.kind = 4 ∨ r.kind = 5 ∨ r.kind = 6 := by
  by_cases h1 : r.kind = 1; exact .inl h1
  by_cases h2 : r.kind = 2; exact .inr (.inl h2)
  by_cases h4 : r.kind = 4; exact .inr (.inr (.inl h4))
  by_cases h5 : r.kind = 5; exact .inr (.inr (.inr (.inl h5)))
  by_cases h6 : r.kind = 6; exact .inr (.inr (.inr (.inr h6)))
  rw [right0 h1 h2 h4 h5 h6] at h; cases h
theorem ws_fail0 {w x : World} {wb R : Nat} {E : List UInt8} (h : WS w wb R E x) (hR : R ≤ 1000000) :
    Calls Tryd.prog 44 #[.pointer (some ⟨wb, 0, none⟩), .int .i64 0] x fun e y => e = .returned (.tuple #[]) ∧ WS w wb R E y := by
  obtain ⟨v, l, bad, ha, hv, h3, h4⟩ := h.all
  refine (Wr.fail_any wb v R l bad 0 x ha).mono ?_
  rintro e y ⟨rfl, hl, ht⟩
  have hb : (if bad = 0 then (0 : Int) else bad) = bad := by split <;> omega
  rw [hb] at hl
  exact ⟨rfl, ⟨v, l, bad, hl, hv, h3, WS.turn h3 h4 ht⟩⟩
/-- a writer, and bytes of one's own that lie apart from it -/
def WSB (w : World) (wb R : Nat) (E : List UInt8) (p : Option Addr) (n c : Nat) (b : List UInt8) (x : World) : Prop :=
  ∃ v l bad base, WAt x wb v R l bad ∧ Inv2 R E l bad ∧ (∀ i, foot wb v i → w.heap.size ≤ i) ∧ Below w.heap.size w x ∧ x.ownsRow base 5 1 (.slice p n c) n (bytesV b) ∧ ∀ i, foot wb v i → i < base
theorem wsb_of {w x0 x : World} {wb R : Nat} {E b : List UInt8} {p : Option Addr} {n c : Nat} (h : WS w wb R E x0) (hb : Below x0.heap.size x0 x) (ho : x.ownsRow x0.heap.size 5 1 (.slice p n c) n (bytesV b)) : WSB w wb R E p n c b x := by
  obtain ⟨v, l, bad, ha, hv, h3, h4⟩ := h.all
  exact ⟨v, l, bad, _, ha.touch (Turns.of_below (S := fun _ => False) hb) (fun _ _ h => h), hv, h3, h4.trans (hb.mono h4.size), ho, ha.lt⟩
theorem WSB.low {w x : World} {wb R : Nat} {E b : List UInt8} {p : Option Addr} {n c : Nat} (h : WSB w wb R E p n c b x) : Below w.heap.size w x := by
  obtain ⟨_, _, _, _, _, _, _, h4, _⟩ := h
  exact h4
theorem wsb_fail0 {w x : World} {wb R : Nat} {E b : List UInt8} {p : Option Addr} {n c : Nat} (h : WSB w wb R E p n c b x) :
    Calls Tryd.prog 44 #[.pointer (some ⟨wb, 0, none⟩), .int .i64 0] x fun e y => e = .returned (.tuple #[]) ∧ WSB w wb R E p n c b y := by
  obtain ⟨v, l, bad, base, ha, hv, h3, h4, h5, h6⟩ := h
  refine (Wr.fail_any wb v R l bad 0 x ha).mono ?_
  rintro e y ⟨rfl, hl, ht⟩
  have hb : (if bad = 0 then (0 : Int) else bad) = bad := by split <;> omega
  rw [hb] at hl
  exact ⟨rfl, v, l, bad, base, hl, hv, h3, WS.turn h3 h4 ht, own_touch h5 ht (fun k hk hs => by have := (h5.lt k hk).1; have := h6 k hs; omega), h6⟩
theorem wsb_bytes {w x : World} {wb R : Nat} {E b : List UInt8} {p : Option Addr} {n c : Nat} (h : WSB w wb R E p n c b x) (hR : R ≤ 1000000) (hb : b.length ≤ 70368744177664) :
    Calls Tryd.prog 43 #[.pointer (some ⟨wb, 0, none⟩), .slice p n c] x fun e y => e = .returned (.tuple #[]) ∧ WS w wb R (E ++ b) y := by
  obtain ⟨v, l, bad, base, ha, hv, h3, h4, h5, h6⟩ := h
  refine (Wr.bytes_any p n c b wb v R l bad x ha (fun w' ht => ?_) hb (by have := hv.1; omega)).mono ?_
  · obtain ⟨p', c', e9, hs⟩ := own_sl (own_touch h5 ht (fun k hk hs => by have := (h5.lt k hk).1; have := h6 k hs; omega))
    cases e9
    exact hs
  · rintro e y ⟨rfl, hl⟩
    exact ⟨rfl, WS.step h3 h4 hl (hv.one b)⟩
def EncP (r : RecD) (w : World) (e : Ending) (w' : World) : Prop :=
  ∃ p c, e = .returned (.tuple #[.slice p r.enc.1.length c, .int .i64 r.enc.2]) ∧ Bs w' p r.enc.1.length c r.enc.1 ∧ Below w.heap.size w w'
set_option maxRecDepth 100000 in
set_option maxHeartbeats 3200000 in
theorem encode_any (r : RecD) (s : RS) (w : World) (hR : RecAt w r s) :
    Calls Tryd.prog 19 #[.agg (recA r s)] w (EncP r w) := by
  have HW := Lib.hid hR.wf
  have HROW : Hid ((w.alloc (.cells (recA r s) 42)).heap[w.heap.size]? = some (.cells (recA r s) 42 (0, 0))) := heap_alloc_last _ _
  have HB1 := Lib.hid (Below.allocs w (.cells (recA r s) 42))
  have HR1 := Lib.hid (hR.below HB1.out)
  have HRT := Lib.hid (right_any r s _ HR1.out)
  have hmf : ∀ (fn : Fn) (first cap : Array Value) (w : World), (Instr.makeFunc fn first cap).run Tryd.prog w = .ok (.func fn first cap) w := fun _ _ _ _ => rfl
  clear hR
  cases hr : r.right with
  | false =>
    have he : r.enc = ([], 1) := by unfold RecD.enc; rw [if_neg (by rw [hr]; decide)]
    have HEE : Hid (∀ w', Below w.heap.size w w' → EncP r w (.returned (.tuple #[.slice none 0 0, .int .i64 1])) w') := fun w' hb => by
      unfold EncP
      rw [he]
      exact ⟨none, 0, rfl, Sl.nil _ _, hb⟩
    rw [hr] at HRT
    clear hr he
    go_enter Tryd.func19, Tryd.ntmps19
    go_upto_region 1 with fail
    generalize w.alloc (.cells (recA r s) 42) = w1 at *
    go_wp2_with (refine wpList_load_row rfl 42 _ rfl w.heap.size rfl 42 (recA r s) (0, 0) _ HROW.out Tryd.underlying42 rfl (sizeR _ (recA_size HW.out _)) ?_)
    refine HRT.out.mono ?_
    rintro e w2 ⟨rfl, hb2⟩
    have HB2 := Lib.hid (HB1.out.trans (hb2.mono HB1.out.size))
    have HR2 := Lib.hid (HR1.out.below hb2)
    have HRW2 := Lib.hid (Below.keepOld hb2 HROW.out)
    clear hb2
    go_wp2_with fail
    go_ret2
    exact HEE.out _ HB2.out
  | true =>
    have he : r.enc = (r.bytes, 0) := by unfold RecD.enc; rw [if_pos hr]
    have HEE : Hid (∀ p c w', Bs w' p r.bytes.length c r.bytes → Below w.heap.size w w' → EncP r w (.returned (.tuple #[.slice p r.bytes.length c, .int .i64 0])) w') := fun p c w' ho hb => by
      unfold EncP
      rw [he]
      exact ⟨p, c, rfl, ho, hb⟩
    rw [hr] at HRT
    have hk := right_kind hr
    have HRR := Lib.hid hr
    clear hr he
    have hses := HW.out.ses
    have hseq := HW.out.seq
    have hquo := HW.out.quo
    have w1x : IntKind.u64.wrap (r.ses : Int) = (r.ses : Int) := by rw [IntKind.wrap_u64]; omega
    have w2x : IntKind.u64.wrap (r.seq : Int) = (r.seq : Int) := by rw [IntKind.wrap_u64]; omega
    have w3x : IntKind.u64.wrap (r.quo : Int) = (r.quo : Int) := by rw [IntKind.wrap_u64]; omega
    by_cases h1 : r.kind = 1
    · have t1 : (r.kind == 1) = true := by rw [beq_iff_eq]; exact h1
      have hkw : IntKind.u64.wrap r.kind = 1 := by rw [h1]; rfl
      have HBY : Hid ([] ++ be 1 1 ++ be r.ses 4 ++ be r.quo 1 = r.bytes) := by show _ = _; unfold RecD.bytes; rw [if_pos h1, h1]; simp
      have HLE : Hid (r.bytes.length ≤ 2000) := by show _ ≤ _; rw [← HBY.out]; simp [be_length]
      have hq8 : r.quo < 256 := by
        have := HRR.out
        rw [right1 h1] at this
        simp only [Bool.and_eq_true, decide_eq_true_eq] at this
        omega
      clear h1 hk
      go_enter Tryd.func19, Tryd.ntmps19
      go_upto_region 1 with fail
      generalize w.alloc (.cells (recA r s) 42) = w1 at *
      go_wp2_with (refine wpList_load_row rfl 42 _ rfl w.heap.size rfl 42 (recA r s) (0, 0) _ HROW.out Tryd.underlying42 rfl (sizeR _ (recA_size HW.out _)) ?_)
      refine HRT.out.mono ?_
      rintro e w2 ⟨rfl, hb2⟩
      have HB2 := Lib.hid (HB1.out.trans (hb2.mono HB1.out.size))
      have HR2 := Lib.hid (HR1.out.below hb2)
      have HRW2 := Lib.hid (Below.keepOld hb2 HROW.out)
      clear hb2
      go_wp2_with fail
      refine (ws_new w2 w2 (Below.refl _ _) 2000 (by omega)).mono ?_
      rintro e x0 ⟨rfl, hws, _⟩
      generalize w2.heap.size = wb at *
      obtain ⟨a0, a1, a2, a3, a20, _, _, _, _⟩ := rec_cells HW.out (Below.keepOld hws.low HRW2.out)
      have HWS := Lib.hid hws
      clear hws
      go_wp2_with fail
      refine (ws_num HWS.out (by omega) 1 1 (by omega) (by omega) (by omega) (by omega)).mono ?_
      rintro e xn ⟨rfl, hws⟩
      clear a0 a1 a2 a3 a20 HWS
      obtain ⟨a0, a1, a2, a3, a20, _, _, _, _⟩ := rec_cells HW.out (Below.keepOld hws.low HRW2.out)
      have HWS := Lib.hid hws
      clear hws
      go_wp2_with fail
      refine (ws_num HWS.out (by omega) r.ses 4 (by omega) (by omega) (by omega) (by omega)).mono ?_
      rintro e xn ⟨rfl, hws⟩
      clear a0 a1 a2 a3 a20 HWS
      obtain ⟨a0, a1, a2, a3, a20, _, _, _, _⟩ := rec_cells HW.out (Below.keepOld hws.low HRW2.out)
      have HWS := Lib.hid hws
      clear hws
      go_wp2_with fail
      refine (ws_num HWS.out (by omega) r.quo 1 (by omega) (by omega) (by omega) (by omega)).mono ?_
      rintro e xn ⟨rfl, hws⟩
      clear a0 a1 a2 a3 a20 HWS
      obtain ⟨a0, a1, a2, a3, a20, _, _, _, _⟩ := rec_cells HW.out (Below.keepOld hws.low HRW2.out)
      have HWS := Lib.hid hws
      clear hws
      go_wp2_with fail
      have hws9 := HWS.out
      rw [HBY.out] at hws9
      refine (ws_done hws9 (by omega) HLE.out).mono ?_
      rintro e x9 ⟨⟨p9, c9, rfl, ho9⟩, hws8, hb9⟩
      obtain ⟨p', c', e9, hs9⟩ := own_sl ho9
      cases e9
      have HS9 := Lib.hid hs9
      have HB9 := Lib.hid (HB2.out.trans (hws8.low.mono HB2.out.size))
      clear hws8 hb9 ho9 hs9 hws9
      go_wp2_with fail
      go_ret2
      exact HEE.out _ _ _ HS9.out HB9.out
    have t1 : (r.kind == 1) = false := by rw [beq_eq_false_iff_ne]; exact h1
    by_cases h2 : r.kind = 2
    · have t2 : (r.kind == 2) = true := by rw [beq_iff_eq]; exact h2
      have hkw : IntKind.u64.wrap r.kind = 2 := by rw [h2]; rfl
      have hbl : r.blob.length ≤ 600 := by
        have := HRR.out
        rw [right2 h2] at this
        simp only [Bool.and_eq_true, decide_eq_true_eq] at this
        omega
      have HBY : Hid ([] ++ be 2 1 ++ be r.ses 4 ++ be r.seq 4 ++ r.hint ++ r.blob = r.bytes) := by show _ = _; unfold RecD.bytes; rw [if_neg h1, if_pos h2, h2]; simp
      have HLE : Hid (r.bytes.length ≤ 2000) := by show _ ≤ _; rw [← HBY.out]; simp [be_length, HW.out.hint]; omega
      clear h1 h2 hk
      go_enter Tryd.func19, Tryd.ntmps19
      go_upto_region 1 with fail
      generalize w.alloc (.cells (recA r s) 42) = w1 at *
      go_wp2_with (refine wpList_load_row rfl 42 _ rfl w.heap.size rfl 42 (recA r s) (0, 0) _ HROW.out Tryd.underlying42 rfl (sizeR _ (recA_size HW.out _)) ?_)
      refine HRT.out.mono ?_
      rintro e w2 ⟨rfl, hb2⟩
      have HB2 := Lib.hid (HB1.out.trans (hb2.mono HB1.out.size))
      have HR2 := Lib.hid (HR1.out.below hb2)
      have HRW2 := Lib.hid (Below.keepOld hb2 HROW.out)
      clear hb2
      go_wp2_with fail
      refine (ws_new w2 w2 (Below.refl _ _) 2000 (by omega)).mono ?_
      rintro e x0 ⟨rfl, hws, _⟩
      generalize w2.heap.size = wb at *
      obtain ⟨a0, a1, a2, a3, a20, _, _, _, _⟩ := rec_cells HW.out (Below.keepOld hws.low HRW2.out)
      have HWS := Lib.hid hws
      clear hws
      go_wp2_with fail
      refine (ws_num HWS.out (by omega) 2 1 (by omega) (by omega) (by omega) (by omega)).mono ?_
      rintro e xn ⟨rfl, hws⟩
      clear a0 a1 a2 a3 a20 HWS
      obtain ⟨a0, a1, a2, a3, a20, _, _, _, _⟩ := rec_cells HW.out (Below.keepOld hws.low HRW2.out)
      have HWS := Lib.hid hws
      clear hws
      go_wp2_with fail
      refine (ws_num HWS.out (by omega) r.ses 4 (by omega) (by omega) (by omega) (by omega)).mono ?_
      rintro e xn ⟨rfl, hws⟩
      clear a0 a1 a2 a3 a20 HWS
      obtain ⟨a0, a1, a2, a3, a20, _, _, _, _⟩ := rec_cells HW.out (Below.keepOld hws.low HRW2.out)
      have HWS := Lib.hid hws
      clear hws
      go_wp2_with fail
      refine (ws_num HWS.out (by omega) r.seq 4 (by omega) (by omega) (by omega) (by omega)).mono ?_
      rintro e xn ⟨rfl, hws⟩
      clear a0 a1 a2 a3 a20 HWS
      obtain ⟨a0, a1, a2, a3, a20, _, _, _, _⟩ := rec_cells HW.out (Below.keepOld hws.low HRW2.out)
      have HWS := Lib.hid hws
      clear hws
      go_wp2_with ((with_reducible refine wpAt 52 ?_); refine wpList_load_mid rfl 40 _ rfl w.heap.size 4 rfl (idA r.hint).toList _ (rec_cells HW.out (Below.keepOld HWS.out.low HRW2.out)).rh Tryd.underlying40 rfl (by rw [Array.length_toList]; exact sizeH _ HW.out.hint) ?_)
      try rw [Array.toArray_toList]
      refine (ws_hint HWS.out (by omega) r.hint HW.out.hint).mono ?_
      rintro e xn ⟨rfl, hws⟩
      clear a0 a1 a2 a3 a20 HWS
      obtain ⟨a0, a1, a2, a3, a20, _, _, _, _⟩ := rec_cells HW.out (Below.keepOld hws.low HRW2.out)
      have HWS := Lib.hid hws
      clear hws
      go_wp2_with fail
      refine (ws_bytes HWS.out (by omega) s.p r.blob.length s.c r.blob HR2.out.blob (by omega)).mono ?_
      rintro e xn ⟨rfl, hws⟩
      clear a0 a1 a2 a3 a20 HWS
      obtain ⟨a0, a1, a2, a3, a20, _, _, _, _⟩ := rec_cells HW.out (Below.keepOld hws.low HRW2.out)
      have HWS := Lib.hid hws
      clear hws
      go_wp2_with fail
      have hws9 := HWS.out
      rw [HBY.out] at hws9
      refine (ws_done hws9 (by omega) HLE.out).mono ?_
      rintro e x9 ⟨⟨p9, c9, rfl, ho9⟩, hws8, hb9⟩
      obtain ⟨p', c', e9, hs9⟩ := own_sl ho9
      cases e9
      have HS9 := Lib.hid hs9
      have HB9 := Lib.hid (HB2.out.trans (hws8.low.mono HB2.out.size))
      clear hws8 hb9 ho9 hs9 hws9
      go_wp2_with fail
      go_ret2
      exact HEE.out _ _ _ HS9.out HB9.out
    have t2 : (r.kind == 2) = false := by rw [beq_eq_false_iff_ne]; exact h2
    by_cases h4 : r.kind = 4
    · have t4 : (r.kind == 4) = true := by rw [beq_iff_eq]; exact h4
      have hkw : IntKind.u64.wrap r.kind = 4 := by rw [h4]; rfl
      have HBY : Hid ([] ++ be 4 1 ++ be r.ses 4 = r.bytes) := by show _ = _; unfold RecD.bytes; rw [if_neg h1, if_neg h2, if_pos h4, h4]; simp
      have HLE : Hid (r.bytes.length ≤ 2000) := by show _ ≤ _; rw [← HBY.out]; simp [be_length]
      clear h1 h2 h4 hk
      go_enter Tryd.func19, Tryd.ntmps19
      go_upto_region 1 with fail
      generalize w.alloc (.cells (recA r s) 42) = w1 at *
      go_wp2_with (refine wpList_load_row rfl 42 _ rfl w.heap.size rfl 42 (recA r s) (0, 0) _ HROW.out Tryd.underlying42 rfl (sizeR _ (recA_size HW.out _)) ?_)
      refine HRT.out.mono ?_
      rintro e w2 ⟨rfl, hb2⟩
      have HB2 := Lib.hid (HB1.out.trans (hb2.mono HB1.out.size))
      have HR2 := Lib.hid (HR1.out.below hb2)
      have HRW2 := Lib.hid (Below.keepOld hb2 HROW.out)
      clear hb2
      go_wp2_with fail
      refine (ws_new w2 w2 (Below.refl _ _) 2000 (by omega)).mono ?_
      rintro e x0 ⟨rfl, hws, _⟩
      generalize w2.heap.size = wb at *
      obtain ⟨a0, a1, a2, a3, a20, _, _, _, _⟩ := rec_cells HW.out (Below.keepOld hws.low HRW2.out)
      have HWS := Lib.hid hws
      clear hws
      go_wp2_with fail
      refine (ws_num HWS.out (by omega) 4 1 (by omega) (by omega) (by omega) (by omega)).mono ?_
      rintro e xn ⟨rfl, hws⟩
      clear a0 a1 a2 a3 a20 HWS
      obtain ⟨a0, a1, a2, a3, a20, _, _, _, _⟩ := rec_cells HW.out (Below.keepOld hws.low HRW2.out)
      have HWS := Lib.hid hws
      clear hws
      go_wp2_with fail
      refine (ws_num HWS.out (by omega) r.ses 4 (by omega) (by omega) (by omega) (by omega)).mono ?_
      rintro e xn ⟨rfl, hws⟩
      clear a0 a1 a2 a3 a20 HWS
      obtain ⟨a0, a1, a2, a3, a20, _, _, _, _⟩ := rec_cells HW.out (Below.keepOld hws.low HRW2.out)
      have HWS := Lib.hid hws
      clear hws
      go_wp2_with fail
      have hws9 := HWS.out
      rw [HBY.out] at hws9
      refine (ws_done hws9 (by omega) HLE.out).mono ?_
      rintro e x9 ⟨⟨p9, c9, rfl, ho9⟩, hws8, hb9⟩
      obtain ⟨p', c', e9, hs9⟩ := own_sl ho9
      cases e9
      have HS9 := Lib.hid hs9
      have HB9 := Lib.hid (HB2.out.trans (hws8.low.mono HB2.out.size))
      clear hws8 hb9 ho9 hs9 hws9
      go_wp2_with fail
      go_ret2
      exact HEE.out _ _ _ HS9.out HB9.out
    have t4 : (r.kind == 4) = false := by rw [beq_eq_false_iff_ne]; exact h4
    by_cases h5 : r.kind = 5
    · have t5 : (r.kind == 5) = true := by rw [beq_iff_eq]; exact h5
      have hkw : IntKind.u64.wrap r.kind = 5 := by rw [h5]; rfl
      have hrb : rightB r.blk = true := by
        have := HRR.out
        rw [right5 h5] at this
        simp only [Bool.and_eq_true] at this
        exact this.2.2.2.2.2
      have HBY : Hid ([] ++ be 5 1 ++ encL r.blk = r.bytes) := by show _ = _; unfold RecD.bytes; rw [if_neg h1, if_neg h2, if_neg h4, if_pos h5, h5]; simp
      have HEL : Hid ((encL r.blk).length ≤ 1100) := by show _ ≤ _; rw [encL_len HW.out.blk]; have := right_le hrb; omega
      have HLE : Hid (r.bytes.length ≤ 2000) := by show _ ≤ _; rw [← HBY.out, List.length_append, List.length_append, be_length]; have := HEL.out; simp; omega
      have HBE : Hid (r.blk.enc = (encL r.blk, 0)) := by show _ = _; unfold BlkD.enc; rw [if_pos hrb]
      clear h1 h2 h4 h5 hk hrb
      go_enter Tryd.func19, Tryd.ntmps19
      go_upto_region 1 with fail
      generalize w.alloc (.cells (recA r s) 42) = w1 at *
      go_wp2_with (refine wpList_load_row rfl 42 _ rfl w.heap.size rfl 42 (recA r s) (0, 0) _ HROW.out Tryd.underlying42 rfl (sizeR _ (recA_size HW.out _)) ?_)
      refine HRT.out.mono ?_
      rintro e w2 ⟨rfl, hb2⟩
      have HB2 := Lib.hid (HB1.out.trans (hb2.mono HB1.out.size))
      have HR2 := Lib.hid (HR1.out.below hb2)
      have HRW2 := Lib.hid (Below.keepOld hb2 HROW.out)
      clear hb2
      go_wp2_with fail
      refine (ws_new w2 w2 (Below.refl _ _) 2000 (by omega)).mono ?_
      rintro e x0 ⟨rfl, hws, _⟩
      generalize w2.heap.size = wb at *
      obtain ⟨a0, a1, a2, a3, a20, _, _, _, _⟩ := rec_cells HW.out (Below.keepOld hws.low HRW2.out)
      have HWS := Lib.hid hws
      clear hws
      go_wp2_with fail
      refine (ws_num HWS.out (by omega) 5 1 (by omega) (by omega) (by omega) (by omega)).mono ?_
      rintro e xn ⟨rfl, hws⟩
      clear a0 a1 a2 a3 a20 HWS
      obtain ⟨a0, a1, a2, a3, a20, _, _, _, _⟩ := rec_cells HW.out (Below.keepOld hws.low HRW2.out)
      have HWS := Lib.hid hws
      clear hws
      go_wp2_with ((with_reducible refine wpAt 69 ?_); refine wpList_load_mid rfl 26 _ rfl w.heap.size 21 rfl (r.blkA s).toList _ (rec_cells HW.out (Below.keepOld HWS.out.low HRW2.out)).rb Tryd.underlying26 rfl (by rw [Array.length_toList, infoBlk _ rfl, rblk_size HW.out]) ?_)
      try rw [Array.toArray_toList]
      have henc := Blk.encode_any _ _ _ _ _ _ (HR2.out.below HWS.out.low).blkAt
      unfold Blk.EncP at henc
      rw [HBE.out] at henc
      refine henc.mono ?_
      clear henc
      rintro e y0 ⟨p5, c5, rfl, ho5, hs5, hb5⟩
      have hwb := wsb_of HWS.out hb5 ho5
      clear HWS a0 a1 a2 a3 a20 ho5 hs5 hb5
      have HWB := Lib.hid hwb
      clear hwb
      go_wp2_with fail
      refine (wsb_fail0 HWB.out).mono ?_
      rintro e y1 ⟨rfl, hwb⟩
      clear HWB
      have HWB := Lib.hid hwb
      clear hwb
      go_wp2_with fail
      refine (wsb_bytes HWB.out (by omega) (by have := HEL.out; omega)).mono ?_
      rintro e xn ⟨rfl, hws⟩
      obtain ⟨a0, a1, a2, a3, a20, _, _, _, _⟩ := rec_cells HW.out (Below.keepOld hws.low HRW2.out)
      have HWS := Lib.hid hws
      clear hws
      go_wp2_with fail
      have hws9 := HWS.out
      rw [HBY.out] at hws9
      refine (ws_done hws9 (by omega) HLE.out).mono ?_
      rintro e x9 ⟨⟨p9, c9, rfl, ho9⟩, hws8, hb9⟩
      obtain ⟨p', c', e9, hs9⟩ := own_sl ho9
      cases e9
      have HS9 := Lib.hid hs9
      have HB9 := Lib.hid (HB2.out.trans (hws8.low.mono HB2.out.size))
      clear hws8 hb9 ho9 hs9 hws9
      go_wp2_with fail
      go_ret2
      exact HEE.out _ _ _ HS9.out HB9.out
    have t5 : (r.kind == 5) = false := by rw [beq_eq_false_iff_ne]; exact h5
    have h6 : r.kind = 6 := by omega
    have t6 : (r.kind == 6) = true := by rw [beq_iff_eq]; exact h6
    have hkw : IntKind.u64.wrap r.kind = 6 := by rw [h6]; rfl
    have HBY : Hid ([] ++ be 6 1 ++ r.blk.hash = r.bytes) := by show _ = _; unfold RecD.bytes; rw [if_neg h1, if_neg h2, if_neg h4, if_neg h5, h6]; simp
    have HLE : Hid (r.bytes.length ≤ 2000) := by show _ ≤ _; rw [← HBY.out]; simp [be_length, HW.out.blk.hlen]
    clear h1 h2 h4 h5 hk h6
    go_enter Tryd.func19, Tryd.ntmps19
    go_upto_region 1 with fail
    generalize w.alloc (.cells (recA r s) 42) = w1 at *
    go_wp2_with (refine wpList_load_row rfl 42 _ rfl w.heap.size rfl 42 (recA r s) (0, 0) _ HROW.out Tryd.underlying42 rfl (sizeR _ (recA_size HW.out _)) ?_)
    refine HRT.out.mono ?_
    rintro e w2 ⟨rfl, hb2⟩
    have HB2 := Lib.hid (HB1.out.trans (hb2.mono HB1.out.size))
    have HR2 := Lib.hid (HR1.out.below hb2)
    have HRW2 := Lib.hid (Below.keepOld hb2 HROW.out)
    clear hb2
    go_wp2_with fail
    refine (ws_new w2 w2 (Below.refl _ _) 2000 (by omega)).mono ?_
    rintro e x0 ⟨rfl, hws, _⟩
    generalize w2.heap.size = wb at *
    obtain ⟨a0, a1, a2, a3, a20, _, _, _, _⟩ := rec_cells HW.out (Below.keepOld hws.low HRW2.out)
    have HWS := Lib.hid hws
    clear hws
    go_wp2_with fail
    refine (ws_num HWS.out (by omega) 6 1 (by omega) (by omega) (by omega) (by omega)).mono ?_
    rintro e xn ⟨rfl, hws⟩
    clear a0 a1 a2 a3 a20 HWS
    obtain ⟨a0, a1, a2, a3, a20, _, _, _, _⟩ := rec_cells HW.out (Below.keepOld hws.low HRW2.out)
    have HWS := Lib.hid hws
    clear hws
    go_wp2_with ((with_reducible refine wpAt 24 ?_); refine wpList_load_mid rfl 23 _ rfl w.heap.size 21 rfl (idA r.blk.hash).toList _ (rec_cells HW.out (Below.keepOld HWS.out.low HRW2.out)).ri Tryd.underlying23 rfl (infoI _ (by rw [Array.length_toList, idA_size, HW.out.blk.hlen])) ?_)
    try rw [Array.toArray_toList]
    refine (ws_id HWS.out (by omega) r.blk.hash HW.out.blk.hlen).mono ?_
    rintro e xn ⟨rfl, hws⟩
    clear a0 a1 a2 a3 a20 HWS
    obtain ⟨a0, a1, a2, a3, a20, _, _, _, _⟩ := rec_cells HW.out (Below.keepOld hws.low HRW2.out)
    have HWS := Lib.hid hws
    clear hws
    go_wp2_with fail
    have hws9 := HWS.out
    rw [HBY.out] at hws9
    refine (ws_done hws9 (by omega) HLE.out).mono ?_
    rintro e x9 ⟨⟨p9, c9, rfl, ho9⟩, hws8, hb9⟩
    obtain ⟨p', c', e9, hs9⟩ := own_sl ho9
    cases e9
    have HS9 := Lib.hid hs9
    have HB9 := Lib.hid (HB2.out.trans (hws8.low.mono HB2.out.size))
    clear hws8 hb9 ho9 hs9 hws9
    go_wp2_with fail
    go_ret2
    exact HEE.out _ _ _ HS9.out HB9.out
end Go.Proofs.YtdaigkcbmdcbcaaDoor.Rec

namespace Go.Proofs.YtdaigkcbmdcbcaaDoor.Rec
open Go.Mir Go.Mir.Parts Wr Cod Rdr Blk

theorem same_blk {a b : BlkD} (h : sameB a b = true) : a = b := by
  obtain ⟨h1, p1, t1⟩ := a
  obtain ⟨h2, p2, t2⟩ := b
  unfold sameB at h
  simp only [Bool.and_eq_true, beq_iff_eq] at h
  obtain ⟨⟨rfl, rfl⟩, rfl⟩ := h
  rfl
theorem same_rec {a b : RecD} (h : a.same b = true) : a = b := by
  obtain ⟨k1, s1, q1, o1, h1, b1, d1⟩ := a
  obtain ⟨k2, s2, q2, o2, h2, b2, d2⟩ := b
  unfold RecD.same at h
  simp only [Bool.and_eq_true, beq_iff_eq] at h
  obtain ⟨⟨⟨⟨⟨⟨rfl, rfl⟩, rfl⟩, rfl⟩, rfl⟩, rfl⟩, h7⟩ := h
  rw [same_blk h7]
theorem same_self (a : RecD) : a.same a = true := by
  unfold RecD.same sameB
  simp
theorem right_only {r : RecD} (h : r.right = true) : r = r.only := by
  unfold RecD.right at h
  rw [Bool.and_eq_true] at h
  exact same_rec h.1
theorem right2t {s q : Nat} {h b : List UInt8} (hb : b.length ≤ 600) : RecD.right ⟨2, s, q, 0, h, b, .zero⟩ = true := by
  rw [right2 rfl]
  have h1 : decide ((b.length : Int) ≤ 600) = true := decide_eq_true (by omega)
  show (((0 : Nat) : Int) == 0 && (noB ⟨2, s, q, 0, h, b, .zero⟩ && decide ((b.length : Int) ≤ 600))) = true
  rw [h1]; rfl
theorem right4t {s : Nat} : RecD.right ⟨4, s, 0, 0, z16, [], .zero⟩ = true := by rw [right4 rfl]; rfl
theorem right5t {d : BlkD} : RecD.right ⟨5, 0, 0, 0, z16, [], d⟩ = rightB d := by
  rw [right5 rfl]
  show (true && (true && (true && ((z16 == z16) && (true && rightB d))))) = _
  rw [beq_self_eq_true]; rfl
theorem sameB_self' (d : BlkD) : sameB d d = true := by unfold sameB; simp
theorem right6t {h : List UInt8} : RecD.right ⟨6, 0, 0, 0, z16, [], ⟨h, zeros, []⟩⟩ = true := by
  rw [right6 rfl]
  show (true && (true && (true && ((z16 == z16) && (true && sameB ⟨h, zeros, []⟩ ⟨h, zeros, []⟩))))) = _
  rw [beq_self_eq_true, sameB_self']; rfl
theorem right1t {s q : Nat} : RecD.right ⟨1, s, 0, q, z16, [], .zero⟩ = (decide ((1 : Int) ≤ (q : Int)) && decide ((q : Int) ≤ 64)) := by
  rw [right1 rfl]
  show (true && ((z16 == z16) && (true && (sameB BlkD.zero BlkD.zero && _)))) = _
  rw [beq_self_eq_true, sameB_self']; rfl
/-- what is read -/
def r1 (b : List UInt8) : RecD := ⟨1, beN ((b.drop 1).take 4), 0, beN ((b.drop 5).take 1), z16, [], .zero⟩
def r2 (b : List UInt8) : RecD := ⟨2, beN ((b.drop 1).take 4), beN ((b.drop 5).take 4), 0, (b.drop 9).take 16, b.drop 25, .zero⟩
def r4 (b : List UInt8) : RecD := ⟨4, beN ((b.drop 1).take 4), 0, 0, z16, [], .zero⟩
def r5 (b : List UInt8) : RecD := ⟨5, 0, 0, 0, z16, [], (decB (b.drop 1)).1⟩
def r6 (b : List UInt8) : RecD := ⟨6, 0, 0, 0, z16, [], ⟨(b.drop 1).take 32, zeros, []⟩⟩
def decK (k : Nat) (b : List UInt8) : RecD × Int :=
  if k = 5 then (if (decB (b.drop 1)).2 ≠ 0 then (.zero, (decB (b.drop 1)).2) else (r5 b, 0))
  else if k = 1 then (if b.length < 6 then (.zero, 2) else if 6 < b.length then (.zero, 3) else if (r1 b).right = true then (r1 b, 0) else (.zero, 4))
  else if k = 2 then (if b.length < 25 then (.zero, 2) else if 600 < b.length - 25 then (.zero, 3) else (r2 b, 0))
  else if k = 4 then (if b.length < 5 then (.zero, 2) else if 5 < b.length then (.zero, 3) else (r4 b, 0))
  else if k = 6 then (if b.length < 33 then (.zero, 2) else if 33 < b.length then (.zero, 3) else (r6 b, 0))
  else (.zero, 4)
def decR (b : List UInt8) : RecD × Int := match b with
  | [] => (.zero, 2)
  | k :: _ => decK k.toNat b
theorem dec_cons (k : UInt8) (tl b : List UInt8) (h : b = k :: tl) : decR b = decK k.toNat b := by subst h; rfl
theorem bytes_cons (r : RecD) (h : r.right = true) : ∃ k tl, r.bytes = k :: tl ∧ (k.toNat : Int) = r.kind ∧ tl = (if r.kind = 1 then be r.ses 4 ++ be r.quo 1 else if r.kind = 2 then be r.ses 4 ++ (be r.seq 4 ++ (r.hint ++ r.blob)) else if r.kind = 4 then be r.ses 4 else if r.kind = 5 then encL r.blk else r.blk.hash) := by
  refine ⟨UInt8.ofNat r.kind.toNat, _, ?_, ?_, rfl⟩
  · unfold RecD.bytes
    rw [be_one]; rfl
  · rw [UInt8.toNat_ofNat']
    rcases right_kind h with h | h | h | h | h <;> rw [h] <;> rfl
/-- what was encoded is read -/
theorem dec_enc (r : RecD) (hw : r.wf) (h : r.right = true) : decR r.bytes = (r, 0) := by
  obtain ⟨k, tl, hb, hk, ht⟩ := bytes_cons r h
  rw [dec_cons k tl _ hb]
  have ho := right_only h
  have hd1 : r.bytes.drop 1 = tl := by rw [hb]; rfl
  have hl : r.bytes.length = 1 + tl.length := by rw [hb, List.length_cons]; omega
  unfold decK
  rcases right_kind h with h1 | h2 | h4 | h5 | h6
  · have hk1 : k.toNat = 1 := by omega
    unfold RecD.only at ho
    rw [if_neg (by omega), if_neg (by omega), if_pos h1] at ho
    rw [if_pos h1] at ht
    have hq : r.quo < 256 := by
      rw [right1 h1] at h
      simp only [Bool.and_eq_true, decide_eq_true_eq] at h
      omega
    have e1 : (r.bytes.drop 1).take 4 = be r.ses 4 := by
      rw [hd1, ht]
      have := List.take_left (l₁ := be r.ses 4) (l₂ := be r.quo 1)
      rwa [be_length] at this
    have e2 : (r.bytes.drop 5).take 1 = be r.quo 1 := by
      rw [show (5 : Nat) = 1 + 4 from rfl, ← List.drop_drop, hd1, ht]
      have := List.drop_left (l₁ := be r.ses 4) (l₂ := be r.quo 1)
      rw [be_length] at this
      rw [this]
      exact List.take_of_length_le (by rw [be_length]; omega)
    have e3 : r1 r.bytes = r := by
      unfold r1
      rw [e1, e2, beN_be _ _ (by omega) (by have := hw.ses; omega), beN_be _ _ (by omega) (by omega)]
      exact ho.symm
    rw [hl, ht, List.length_append, be_length, be_length, if_neg (by omega), if_pos hk1, if_neg (by omega), if_neg (by omega), e3, if_pos h]
  · have hk1 : k.toNat = 2 := by omega
    unfold RecD.only at ho
    rw [if_pos h2] at ho
    rw [if_neg (by omega), if_pos h2] at ht
    have hbl : r.blob.length ≤ 600 := by
      rw [right2 h2] at h
      simp only [Bool.and_eq_true, decide_eq_true_eq] at h
      omega
    have e1 : (r.bytes.drop 1).take 4 = be r.ses 4 := by
      rw [hd1, ht]
      have := List.take_left (l₁ := be r.ses 4) (l₂ := be r.seq 4 ++ (r.hint ++ r.blob))
      rwa [be_length] at this
    have d5 : r.bytes.drop 5 = be r.seq 4 ++ (r.hint ++ r.blob) := by
      rw [show (5 : Nat) = 1 + 4 from rfl, ← List.drop_drop, hd1, ht]
      have := List.drop_left (l₁ := be r.ses 4) (l₂ := be r.seq 4 ++ (r.hint ++ r.blob))
      rwa [be_length] at this
    have e2 : (r.bytes.drop 5).take 4 = be r.seq 4 := by
      rw [d5]
      have := List.take_left (l₁ := be r.seq 4) (l₂ := r.hint ++ r.blob)
      rwa [be_length] at this
    have d9 : r.bytes.drop 9 = r.hint ++ r.blob := by
      rw [show (9 : Nat) = 5 + 4 from rfl, ← List.drop_drop, d5]
      have := List.drop_left (l₁ := be r.seq 4) (l₂ := r.hint ++ r.blob)
      rwa [be_length] at this
    have e3 : (r.bytes.drop 9).take 16 = r.hint := by
      rw [d9, ← hw.hint, List.take_left]
    have e4 : r.bytes.drop 25 = r.blob := by
      rw [show (25 : Nat) = 9 + 16 from rfl, ← List.drop_drop, d9, ← hw.hint, List.drop_left]
    have e5 : r2 r.bytes = r := by
      unfold r2
      rw [e1, e2, e3, e4, beN_be _ _ (by omega) (by have := hw.ses; omega), beN_be _ _ (by omega) (by have := hw.seq; omega)]
      exact ho.symm
    rw [hl, ht, List.length_append, List.length_append, List.length_append, be_length, be_length, hw.hint, if_neg (by omega), if_neg (by omega), if_pos hk1, if_neg (by omega), if_neg (by omega), e5]
  · have hk1 : k.toNat = 4 := by omega
    unfold RecD.only at ho
    rw [if_neg (by omega), if_pos h4] at ho
    rw [if_neg (by omega), if_neg (by omega), if_pos h4] at ht
    have e1 : (r.bytes.drop 1).take 4 = be r.ses 4 := by
      rw [hd1, ht]
      exact List.take_of_length_le (by rw [be_length]; omega)
    have e5 : r4 r.bytes = r := by
      unfold r4
      rw [e1, beN_be _ _ (by omega) (by have := hw.ses; omega)]
      exact ho.symm
    rw [hl, ht, be_length, if_neg (by omega), if_neg (by omega), if_neg (by omega), if_pos hk1, if_neg (by omega), if_neg (by omega), e5]
  · have hk1 : k.toNat = 5 := by omega
    unfold RecD.only at ho
    rw [if_neg (by omega), if_neg (by omega), if_neg (by omega), if_pos h5] at ho
    rw [if_neg (by omega), if_neg (by omega), if_neg (by omega), if_pos h5] at ht
    have hrb : rightB r.blk = true := by
      rw [right5 h5] at h
      simp only [Bool.and_eq_true] at h
      exact h.2.2.2.2.2
    have hd := Blk.dec_enc hw.blk hrb
    have e5 : r5 r.bytes = r := by
      unfold r5
      rw [hd1, ht, hd]
      exact ho.symm
    rw [if_pos hk1, hd1, ht, hd, if_neg (by simp), e5]
  · have hk1 : k.toNat = 6 := by omega
    unfold RecD.only at ho
    rw [if_neg (by omega), if_neg (by omega), if_neg (by omega), if_neg (by omega), if_pos h6] at ho
    rw [if_neg (by omega), if_neg (by omega), if_neg (by omega), if_neg (by omega)] at ht
    have e1 : (r.bytes.drop 1).take 32 = r.blk.hash := by
      rw [hd1, ht]
      exact List.take_of_length_le (by rw [hw.blk.hlen]; omega)
    have e5 : r6 r.bytes = r := by
      unfold r6
      rw [e1]
      exact ho.symm
    rw [hl, ht, hw.blk.hlen, if_neg (by omega), if_neg (by omega), if_neg (by omega), if_neg (by omega), if_pos hk1, if_neg (by omega), if_neg (by omega), e5]
theorem ses_lt {b : List UInt8} {i : Nat} (h : i + 4 ≤ b.length) : beN ((b.drop i).take 4) < 4294967296 := by
  have := beN_take (l := b) (i := i) (k := 4) h
  simpa using this
theorem mk_wf {k : Int} {s q o : Nat} {h b : List UInt8} {d : BlkD} (hk : 0 ≤ k ∧ k ≤ 6) (hs : s < 4294967296) (hq : q < 4294967296) (ho : o < 4294967296) (hh : h.length = 16) (hd : d.wf) : RecD.wf ⟨k, s, q, o, h, b, d⟩ := ⟨by dsimp only; omega, hs, hq, ho, hh, hd⟩
theorem dec_wf (b : List UInt8) : (decR b).1.wf := by
  cases b with
  | nil => exact zero_wf
  | cons k tl =>
    rw [dec_cons k tl _ rfl]
    generalize k :: tl = b
    unfold decK
    by_cases h5 : k.toNat = 5
    · rw [if_pos h5]
      split
      · exact zero_wf
      · exact mk_wf (by decide) (by decide) (by decide) (by decide) rfl (Blk.dec_wf _)
    rw [if_neg h5]
    by_cases h1 : k.toNat = 1
    · rw [if_pos h1]
      split
      · exact zero_wf
      split
      · exact zero_wf
      split
      · have := ses_lt (b := b) (i := 1) (by omega)
        have h9 := beN_take (l := b) (i := 5) (k := 1) (by omega)
        exact mk_wf (by decide) this (by decide) (by omega) rfl Blk.zero_wf
      · exact zero_wf
    rw [if_neg h1]
    by_cases h2 : k.toNat = 2
    · rw [if_pos h2]
      split
      · exact zero_wf
      split
      · exact zero_wf
      · have h7 := ses_lt (b := b) (i := 1) (by omega)
        have h8 := ses_lt (b := b) (i := 5) (by omega)
        exact mk_wf (by decide) h7 h8 (by decide) (by rw [List.length_take, List.length_drop]; omega) Blk.zero_wf
    rw [if_neg h2]
    by_cases h4 : k.toNat = 4
    · rw [if_pos h4]
      split
      · exact zero_wf
      split
      · exact zero_wf
      · have h7 := ses_lt (b := b) (i := 1) (by omega)
        exact mk_wf (by decide) h7 (by decide) (by decide) rfl Blk.zero_wf
    rw [if_neg h4]
    by_cases h6 : k.toNat = 6
    · rw [if_pos h6]
      split
      · exact zero_wf
      split
      · exact zero_wf
      · exact mk_wf (by decide) (by decide) (by decide) (by decide) rfl ⟨by show ((b.drop 1).take 32).length = 32; rw [List.length_take, List.length_drop]; omega, rfl, fun x hx => (nomatch hx)⟩
    rw [if_neg h6]
    exact zero_wf
theorem ite_zero {c : Prop} [Decidable c] {x y : RecD × Int} (hx : x.2 ≠ 0 → x.1 = .zero) (hy : y.2 ≠ 0 → y.1 = .zero) : (if c then x else y).2 ≠ 0 → (if c then x else y).1 = .zero := by
  split <;> assumption
theorem dec_zero {b : List UInt8} : (decR b).2 ≠ 0 → (decR b).1 = .zero := by
  cases b with
  | nil => exact fun _ => rfl
  | cons k tl =>
    rw [dec_cons k tl _ rfl]
    generalize k :: tl = b
    have z : ∀ (n : Int), ((RecD.zero, n) : RecD × Int).2 ≠ 0 → ((RecD.zero, n) : RecD × Int).1 = .zero := fun _ _ => rfl
    have o : ∀ (r : RecD), ((r, (0 : Int)) : RecD × Int).2 ≠ 0 → ((r, (0 : Int)) : RecD × Int).1 = .zero := fun _ h => absurd rfl h
    unfold decK
    exact ite_zero (ite_zero (z _) (o _)) (ite_zero (ite_zero (z _) (ite_zero (z _) (ite_zero (o _) (z _)))) (ite_zero (ite_zero (z _) (ite_zero (z _) (o _))) (ite_zero (ite_zero (z _) (ite_zero (z _) (o _))) (ite_zero (ite_zero (z _) (ite_zero (z _) (o _))) (z _)))))
theorem bytes5 (d : BlkD) : RecD.bytes ⟨5, 0, 0, 0, z16, [], d⟩ = be 5 1 ++ encL d := by
  unfold RecD.bytes; dsimp only; rw [if_neg (by decide), if_neg (by decide), if_neg (by decide), if_pos rfl]; rfl
theorem bytes1 (s q : Nat) : RecD.bytes ⟨1, s, 0, q, z16, [], .zero⟩ = be 1 1 ++ (be s 4 ++ be q 1) := by
  unfold RecD.bytes; dsimp only; rw [if_pos rfl]; rfl
theorem bytes2 (s q : Nat) (h b : List UInt8) : RecD.bytes ⟨2, s, q, 0, h, b, .zero⟩ = be 2 1 ++ (be s 4 ++ (be q 4 ++ (h ++ b))) := by
  unfold RecD.bytes; dsimp only; rw [if_neg (by decide), if_pos rfl]; rfl
theorem bytes4 (s : Nat) : RecD.bytes ⟨4, s, 0, 0, z16, [], .zero⟩ = be 4 1 ++ be s 4 := by
  unfold RecD.bytes; dsimp only; rw [if_neg (by decide), if_neg (by decide), if_pos rfl]; rfl
theorem bytes6 (h : List UInt8) : RecD.bytes ⟨6, 0, 0, 0, z16, [], ⟨h, zeros, []⟩⟩ = be 6 1 ++ h := by
  unfold RecD.bytes; dsimp only; rw [if_neg (by decide), if_neg (by decide), if_neg (by decide), if_neg (by decide)]; rfl
theorem dec_back {b : List UInt8} (h : (decR b).2 = 0) : (decR b).1.right = true ∧ (decR b).1.bytes = b := by
  cases b with
  | nil => cases h
  | cons k tl =>
    rw [dec_cons k tl _ rfl] at h ⊢
    generalize hbb : k :: tl = b at *
    have hd1 : b = be k.toNat 1 ++ b.drop 1 := by rw [be_one, ← hbb]; simp
    have hlb : 1 ≤ b.length := by rw [← hbb]; simp
    unfold decK at h ⊢
    by_cases h5 : k.toNat = 5
    · rw [if_pos h5] at h ⊢
      split at h
      · rename_i hne; exact absurd h hne
      · rename_i hne
        rw [if_neg hne]
        have hb := Blk.dec_back (b := b.drop 1) (by simpa using hne)
        refine ⟨by show RecD.right (r5 b) = true; unfold r5; rw [right5t]; exact hb.1, ?_⟩
        show RecD.bytes (r5 b) = b
        unfold r5
        rw [bytes5, hb.2, show be 5 1 = be k.toNat 1 by rw [h5]]
        exact hd1.symm
    rw [if_neg h5] at h ⊢
    by_cases h1 : k.toNat = 1
    · rw [if_pos h1] at h ⊢
      split at h
      · cases h
      split at h
      · cases h
      split at h
      · rename_i a c d
        rw [if_neg a, if_neg c, if_pos d]
        refine ⟨d, ?_⟩
        show RecD.bytes (r1 b) = b
        unfold r1
        rw [bytes1, be_take (by omega) (by omega), be_take (by omega) (by omega)]
        have e1 : (b.drop 5).take 1 = b.drop 5 := List.take_of_length_le (by rw [List.length_drop]; omega)
        rw [e1, show (5 : Nat) = 1 + 4 from rfl, cut2]
        rw [show be 1 1 = be k.toNat 1 by rw [h1]]
        exact hd1.symm
      · cases h
    rw [if_neg h1] at h ⊢
    by_cases h2 : k.toNat = 2
    · rw [if_pos h2] at h ⊢
      split at h
      · cases h
      split at h
      · cases h
      · rename_i a c
        rw [if_neg a, if_neg c]
        refine ⟨right2t (by rw [List.length_drop]; omega), ?_⟩
        show RecD.bytes (r2 b) = b
        unfold r2
        rw [bytes2, be_take (by omega) (by omega), be_take (by omega) (by omega)]
        rw [cut2 b 9 16, cut2 b 5 4, cut2 b 1 4, show be 2 1 = be k.toNat 1 by rw [h2]]
        exact hd1.symm
    rw [if_neg h2] at h ⊢
    by_cases h4 : k.toNat = 4
    · rw [if_pos h4] at h ⊢
      split at h
      · cases h
      split at h
      · cases h
      · rename_i a c
        rw [if_neg a, if_neg c]
        refine ⟨right4t, ?_⟩
        show RecD.bytes (r4 b) = b
        unfold r4
        have e1 : (b.drop 1).take 4 = b.drop 1 := List.take_of_length_le (by rw [List.length_drop]; omega)
        rw [bytes4, be_take (by omega) (by omega), e1, show be 4 1 = be k.toNat 1 by rw [h4]]
        exact hd1.symm
    rw [if_neg h4] at h ⊢
    by_cases h6 : k.toNat = 6
    · rw [if_pos h6] at h ⊢
      split at h
      · cases h
      split at h
      · cases h
      · rename_i a c
        rw [if_neg a, if_neg c]
        refine ⟨right6t, ?_⟩
        show RecD.bytes (r6 b) = b
        unfold r6
        have e1 : (b.drop 1).take 32 = b.drop 1 := List.take_of_length_le (by rw [List.length_drop]; omega)
        rw [bytes6, e1, show be 6 1 = be k.toNat 1 by rw [h6]]
        exact hd1.symm
    rw [if_neg h6] at h
    cases h
end Go.Proofs.YtdaigkcbmdcbcaaDoor.Rec

namespace Go.Proofs.YtdaigkcbmdcbcaaDoor.Rec
open Go.Mir Go.Mir.Parts Wr Cod Rdr Blk

def lf (s : RD) : Nat := s.l.length - s.pos
def mn (s : RD) : Nat := min (lf s) 600
def upP (s1 : RD) : RecD × RD :=
  (⟨2, s1.numV 4, (s1.numS 4).numV 4, 0, ((s1.numS 4).numS 4).idV 16, (((s1.numS 4).numS 4).takeS 16 true).takeB (mn (((s1.numS 4).numS 4).takeS 16 true) : Int) true, .zero⟩,
    (((s1.numS 4).numS 4).takeS 16 true).takeS (mn (((s1.numS 4).numS 4).takeS 16 true) : Int) true)
def restP (s1 : RD) (k : Nat) : RecD × RD :=
  if k = 1 then (⟨1, s1.numV 4, 0, (s1.numS 4).numV 1, z16, [], .zero⟩, (s1.numS 4).numS 1)
  else if k = 2 then upP s1
  else if k = 4 then (⟨4, s1.numV 4, 0, 0, z16, [], .zero⟩, s1.numS 4)
  else if k = 5 then (⟨5, 0, 0, 0, z16, [], (decB (s1.takeB (lf s1 : Int) true)).1⟩, (s1.takeS (lf s1 : Int) true).fail (decB (s1.takeB (lf s1 : Int) true)).2)
  else if k = 6 then (⟨6, 0, 0, 0, z16, [], ⟨s1.idV 32, zeros, []⟩⟩, s1.takeS 32 true)
  else (⟨(k : Int), 0, 0, 0, z16, [], .zero⟩, s1.fail 4)
def dP (l : List UInt8) : RecD × RD := restP ((RD.new l).numS 1) ((RD.new l).numV 1)
def dQ (l : List UInt8) : RecD × Int := if (dP l).2.done ≠ 0 then (.zero, (dP l).2.done) else if (dP l).1.right = true then ((dP l).1, 0) else (.zero, 4)
theorem dQ_bad {l : List UInt8} {m : RecD} {s : RD} (h : dP l = (m, s)) {e : Int} (he : e ≠ 0) (hd : s.done = e) : dQ l = (.zero, e) := by
  unfold dQ; rw [h]; dsimp only; rw [hd, if_pos he]
theorem dQ_ok {l : List UInt8} {m : RecD} {s : RD} (h : dP l = (m, s)) (hd : s.done = 0) (hr : m.right = true) : dQ l = (m, 0) := by
  unfold dQ; rw [h]; dsimp only; rw [hd, if_neg (by simp), if_pos hr]
theorem dQ_no {l : List UInt8} {m : RecD} {s : RD} (h : dP l = (m, s)) (hd : s.done = 0) (hr : ¬ m.right = true) : dQ l = (.zero, 4) := by
  unfold dQ; rw [h]; dsimp only; rw [hd, if_neg (by simp), if_neg hr]
theorem up_eq {l : List UInt8} (hl : 1 ≤ l.length) : ∃ m s, upP ⟨l, 1, none⟩ = (m, s) ∧ ((l.length < 25 ∧ s.done = 2) ∨ (25 ≤ l.length ∧ 600 < l.length - 25 ∧ s.done = 3) ∨ (25 ≤ l.length ∧ l.length - 25 ≤ 600 ∧ s.done = 0 ∧ m = r2 l)) := by
  unfold upP
  refine ⟨_, _, rfl, ?_⟩
  have c4 : (4 : Int) = ((4 : Nat) : Int) := rfl
  have c16 : (16 : Int) = ((16 : Nat) : Int) := rfl
  by_cases h5 : l.length < 5
  · obtain ⟨_, b⟩ := num_short (l := l) (pos := 1) (k := 4) (by omega) (by omega) (by omega)
    rw [← c4] at b
    rw [b, (num_bad 4).2, (take_bad 16 true).2, (take_bad _ true).2]
    exact .inl ⟨by omega, done_bad (by decide)⟩
  obtain ⟨a1, b1⟩ := num_fit (l := l) (pos := 1) (k := 4) (by omega) (by omega) (by omega)
  rw [← c4] at a1 b1
  rw [b1]
  by_cases h9 : l.length < 9
  · obtain ⟨_, b⟩ := num_short (l := l) (pos := 1 + 4) (k := 4) (by omega) (by omega) (by omega)
    rw [← c4] at b
    rw [b, (take_bad 16 true).2, (take_bad _ true).2]
    exact .inl ⟨by omega, done_bad (by decide)⟩
  obtain ⟨a2, b2⟩ := num_fit (l := l) (pos := 1 + 4) (k := 4) (by omega) (by omega) (by omega)
  rw [← c4] at a2 b2
  rw [b2]
  by_cases h25 : l.length < 25
  · obtain ⟨_, b⟩ := take_short (l := l) (pos := 1 + 4 + 4) (k := 16) (by omega)
    rw [← c16] at b
    rw [b, (take_bad _ true).2]
    exact .inl ⟨by omega, done_bad (by decide)⟩
  obtain ⟨a3, b3⟩ := id_fit (l := l) (pos := 1 + 4 + 4) 16 (by omega)
  rw [← c16] at b3
  rw [b3, a1, a2, a3]
  have hm : mn ⟨l, 1 + 4 + 4 + 16, none⟩ = min (l.length - 25) 600 := rfl
  rw [hm]
  obtain ⟨a4, b4⟩ := take_in (l := l) (pos := 1 + 4 + 4 + 16) (m := min (l.length - 25) 600) (by omega)
  rw [a4, b4]
  by_cases hg : 600 < l.length - 25
  · exact .inr (.inl ⟨by omega, hg, done_left (by omega)⟩)
  · refine .inr (.inr ⟨by omega, by omega, done_all (by omega), ?_⟩)
    have e4 : (l.drop (1 + 4 + 4 + 16)).take (min (l.length - 25) 600) = l.drop 25 := List.take_of_length_le (by rw [List.length_drop]; omega)
    rw [e4]
    rfl
theorem dQ_dec (l : List UInt8) : dQ l = decR l := by
  have c1 : (1 : Int) = ((1 : Nat) : Int) := rfl
  have c4 : (4 : Int) = ((4 : Nat) : Int) := rfl
  have c32 : (32 : Int) = ((32 : Nat) : Int) := rfl
  cases hl : l with
  | nil =>
    obtain ⟨a, b⟩ := num_short (l := ([] : List UInt8)) (pos := 0) (k := 1) (by omega) (by omega) (by simp)
    rw [← c1] at a b
    have h : dP [] = (⟨0, 0, 0, 0, z16, [], .zero⟩, ⟨[], 0, some 2⟩) := by
      unfold dP
      rw [show (RD.new []).numV 1 = 0 from a, show (RD.new []).numS 1 = ⟨[], 0, some 2⟩ from b]
      unfold restP
      rw [if_neg (by omega), if_neg (by omega), if_neg (by omega), if_neg (by omega), if_neg (by omega)]
      unfold RD.fail
      rw [if_neg (by simp)]
      rfl
    rw [dQ_bad h (by decide) (done_bad (by decide))]
    rfl
  | cons k tl =>
    rw [← hl, dec_cons k tl l hl]
    have hlen : 1 ≤ l.length := by rw [hl]; simp
    obtain ⟨a, b⟩ := num_fit (l := l) (pos := 0) (k := 1) (by omega) (by omega) (by omega)
    have hv : beN ((l.drop 0).take 1) = k.toNat := by rw [hl]; simp [beN]
    rw [hv] at a
    rw [← c1] at a b
    have hP : dP l = restP ⟨l, 1, none⟩ k.toNat := by
      unfold dP
      rw [show (RD.new l).numV 1 = k.toNat from a, show (RD.new l).numS 1 = ⟨l, 1, none⟩ from b]
    unfold restP at hP
    unfold decK
    by_cases h5 : k.toNat = 5
    · rw [if_neg (by omega), if_neg (by omega), if_neg (by omega), if_pos h5] at hP
      rw [if_pos h5]
      have hlf : lf ⟨l, 1, none⟩ = l.length - 1 := rfl
      obtain ⟨a4, b4⟩ := take_in (l := l) (pos := 1) (m := l.length - 1) (by omega)
      have e4 : (l.drop 1).take (l.length - 1) = l.drop 1 := List.take_of_length_le (by rw [List.length_drop]; omega)
      rw [hlf, a4, b4, e4] at hP
      by_cases he : (decB (l.drop 1)).2 = 0
      · rw [if_neg (fun h => h he)]
        rw [he] at hP
        have hf : RD.fail ⟨l, 1 + (l.length - 1), none⟩ 0 = ⟨l, 1 + (l.length - 1), none⟩ := by unfold RD.fail; rw [if_neg (by simp)]
        rw [hf] at hP
        refine dQ_ok hP (done_all (by omega)) ?_
        exact right5t.trans (Blk.dec_back he).1
      · rw [if_pos he]
        have hf : RD.fail ⟨l, 1 + (l.length - 1), none⟩ (decB (l.drop 1)).2 = ⟨l, 1 + (l.length - 1), some (decB (l.drop 1)).2⟩ := by unfold RD.fail; rw [if_pos ⟨rfl, he⟩]
        rw [hf] at hP
        exact dQ_bad hP he (done_bad he)
    rw [if_neg h5]
    by_cases h1 : k.toNat = 1
    · rw [if_pos h1] at hP ⊢
      by_cases h6 : l.length < 6
      · rw [if_pos h6]
        by_cases h55 : l.length < 5
        · obtain ⟨x, y⟩ := num_short (l := l) (pos := 1) (k := 4) (by omega) (by omega) (by omega)
          rw [← c4] at x y
          rw [y, (num_bad 1).2] at hP
          exact dQ_bad hP (by decide) (done_bad (by decide))
        · obtain ⟨x, y⟩ := num_fit (l := l) (pos := 1) (k := 4) (by omega) (by omega) (by omega)
          rw [← c4] at x y
          obtain ⟨x2, y2⟩ := num_short (l := l) (pos := 1 + 4) (k := 1) (by omega) (by omega) (by omega)
          rw [← c1] at x2 y2
          rw [y, y2] at hP
          exact dQ_bad hP (by decide) (done_bad (by decide))
      · rw [if_neg h6]
        obtain ⟨x, y⟩ := num_fit (l := l) (pos := 1) (k := 4) (by omega) (by omega) (by omega)
        rw [← c4] at x y
        obtain ⟨x2, y2⟩ := num_fit (l := l) (pos := 1 + 4) (k := 1) (by omega) (by omega) (by omega)
        rw [← c1] at x2 y2
        rw [x, y, x2, y2] at hP
        by_cases hg : 6 < l.length
        · rw [if_pos hg]
          exact dQ_bad hP (by decide) (done_left (by omega))
        · rw [if_neg hg]
          by_cases hr : (r1 l).right = true
          · rw [if_pos hr]
            exact dQ_ok hP (done_all (by omega)) hr
          · rw [if_neg hr]
            exact dQ_no hP (done_all (by omega)) hr
    rw [if_neg h1] at hP ⊢
    by_cases h2 : k.toNat = 2
    · rw [if_pos h2] at hP ⊢
      obtain ⟨m, s, he, hc⟩ := up_eq hlen
      rw [he] at hP
      rcases hc with ⟨h3, h4⟩ | ⟨h3, h4, h5⟩ | ⟨h3, h4, h5, h6⟩
      · rw [if_pos h3, dQ_bad hP (by decide) h4]
      · rw [if_neg (by omega), if_pos h4, dQ_bad hP (by decide) h5]
      · rw [if_neg (by omega), if_neg (by omega)]
        subst h6
        exact dQ_ok hP h5 (right2t (by rw [List.length_drop]; omega))
    rw [if_neg h2] at hP ⊢
    by_cases h4 : k.toNat = 4
    · rw [if_pos h4] at hP ⊢
      by_cases h3 : l.length < 5
      · obtain ⟨x, y⟩ := num_short (l := l) (pos := 1) (k := 4) (by omega) (by omega) (by omega)
        rw [← c4] at x y
        rw [y] at hP
        rw [if_pos h3, dQ_bad hP (by decide) (done_bad (by decide))]
      · obtain ⟨x, y⟩ := num_fit (l := l) (pos := 1) (k := 4) (by omega) (by omega) (by omega)
        rw [← c4] at x y
        rw [x, y] at hP
        rw [if_neg h3]
        by_cases hg : 5 < l.length
        · rw [if_pos hg, dQ_bad hP (by decide) (done_left (by omega))]
        · rw [if_neg hg]
          exact dQ_ok hP (done_all (by omega)) right4t
    rw [if_neg h4, if_neg h5] at hP
    rw [if_neg h4]
    by_cases h6 : k.toNat = 6
    · rw [if_pos h6] at hP ⊢
      by_cases h3 : l.length < 33
      · obtain ⟨x, y⟩ := take_short (l := l) (pos := 1) (k := 32) (by omega)
        rw [← c32] at y
        rw [y] at hP
        rw [if_pos h3, dQ_bad hP (by decide) (done_bad (by decide))]
      · obtain ⟨x, y⟩ := id_fit (l := l) (pos := 1) 32 (by omega)
        rw [← c32] at y
        rw [x, y] at hP
        rw [if_neg h3]
        by_cases hg : 33 < l.length
        · rw [if_pos hg, dQ_bad hP (by decide) (done_left (by omega))]
        · rw [if_neg hg]
          exact dQ_ok hP (done_all (by omega)) right6t
    rw [if_neg h6] at hP ⊢
    have hf : RD.fail ⟨l, 1, none⟩ 4 = ⟨l, 1, some 4⟩ := by unfold RD.fail; rw [if_pos ⟨rfl, by decide⟩]
    rw [hf] at hP
    exact dQ_bad hP (by decide) (done_bad (by decide))
end Go.Proofs.YtdaigkcbmdcbcaaDoor.Rec
