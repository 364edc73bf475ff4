/- LAYER 16: the walk of BlockAsks, on. Conditions: at most 100 ids each. -/
import Derived.Test.YtepemfgiigceoaaBlkLaw
import Derived.Deep.RegionHeld3
import Derived.Deep.RegionWith
import Derived.IntWalk
import Derived.Test.YtepemfgiigceoaaEager
import Derived.Deep.Cut
namespace Go.Proofs.Ytepemfgiigceoaa.Blk
open Go.RowKit Go.Mir Go.Mir.Parts

theorem und_I : Try.prog.underlying 30 = some (.array 32 5) := Try.underlying30
theorem row_range {w : World} {b : Nat} {A : Array Value} {t : TypeId} {fr : Nat × Nat} (h : w.heap[b]? = some (.cells A t fr)) : w.rangeAt b 0 A.toList := fun j v hv => by
  rw [cell_of_row _ _ _ _ _ _ h, ← Array.getElem?_toList, Nat.zero_add]; exact hv
/-- what the law's memory holds behind its first steps -/
structure Lay (w0 w : World) (M M2 : Array Value) (x : List UInt8) (b0 bx : Nat) : Prop where
  r0 : w.heap[b0]? = some (.cells M 33 (0, 0))
  r1 : w.heap[b0 + 1]? = some (.cells M2 33 (0, 0))
  rx : w.heap[bx]? = some (.cells (idA x) 30 (0, 0))
  below : Below w0.heap.size w0 w
theorem Lay.next {w0 w w' : World} {M M2 : Array Value} {x : List UInt8} {b0 bx : Nat} (h : Lay w0 w M M2 x b0 bx) (hb : Below w.heap.size w w') : Lay w0 w' M M2 x b0 bx :=
  ⟨Below.keepOld hb h.r0, Below.keepOld hb h.r1, Below.keepOld hb h.rx, h.below.trans (hb.mono h.below.size)⟩

theorem flat_bytes (l : List (List UInt8)) : bytesV l.flatten = l.flatMap bytesV := by
  induction l with
  | nil => rfl
  | cons x l ih => rw [List.flatten_cons, bytesV_append, ih]; rfl
theorem u8_add1 (v : UInt8) : IntKind.u8.wrap ((v.toNat : Int) + 1) = ((v + 1).toNat : Int) := by
  rw [UInt8.toNat_add]; simp [IntKind.wrap, IntKind.bits, IntKind.signed]
theorem bytesV_set1 (m : List UInt8) (j : Nat) (y : UInt8) : bytesV (m.set j y) = (bytesV m).set j (.int .u8 (y.toNat : Int)) := by simp [bytesV, List.map_set]
theorem sameB_self (d : BlkD) : sameB d d = true := by unfold sameB; simp
/-- a block that a copy left -/
theorem copy_at {w : World} {d : BlkD} {p : Option Addr} {n c base : Nat} (hh : d.hash.length = 32) (hp : d.par.length = 32) (hl : ∀ x ∈ d.txs, x.length = 32) (hn : d.txs.length = n) (ho : w.ownsRow base 30 32 (.slice p n c) n (d.txs.flatMap bytesV)) : BlkAt w (blkA d.hash d.par p n c) d p n c := by
  obtain ⟨p', c', e, hs⟩ := own_sl ho
  cases e
  exact ⟨rfl, hh, hp, hs, hl, hn⟩

set_option maxRecDepth 100000 in
set_option maxHeartbeats 1000000 in
theorem asks_in (M M2 : Array Value) (d d2 : BlkD) (q q2 : Option Addr) (n c n2 c2 : Nat) (k : Nat) (w : World) (hM : BlkAt w M d q n c) (hM2 : BlkAt w M2 d2 q2 n2 c2) (hn : n ≤ 100) (hn2 : n2 ≤ 100) (hk : k < 256) :
    Calls Try.prog 4 #[.agg M, .agg M2, .int .u8 (k : Int)] w fun e w' => e = .returned (.bool true) ∧ Below w.heap.size w w' := by
  have H2 := Lib.hid (two_allocs w (.cells M 33) (.cells M2 33))
  have HM := Lib.hid hM
  have HM2 := Lib.hid hM2
  have HS := Lib.hid hM.size
  have HS2 := Lib.hid hM2.size
  have hz := zeroI
  have hzh := zeroH
  have HF : Hid (decide (n ≤ 100) = true) := decide_eq_true (by omega)
  have HF2 : Hid (decide (n2 ≤ 100) = true) := decide_eq_true (by omega)
  have hcap := hM.ids.sl.le
  have hmax := hM.ids.sl.max
  have HC : Hid (d.txs.length = n) := hM.ids.count
  clear hM hM2
  go_enter Try.func4, Try.ntmps4
  go_wp2_with ((with_reducible refine wpAt 12 ?_); refine wpList_load_row rfl 33 _ rfl w.heap.size rfl 33 M (0, 0) _ H2.out.1 Try.underlying33 rfl (infoBlk _ HS.out) ?_)
  refine (few_any M d q n c _ (HM.out.below H2.out.2.2.2)).mono ?_
  rintro e w1 ⟨rfl, hb1⟩
  rw [HF.out]
  have HB1 := Lib.hid (H2.out.2.2.2.trans (hb1.mono H2.out.2.2.2.size))
  have HR0 := Lib.hid (Below.keepOld hb1 H2.out.1)
  have HR2 := Lib.hid (Below.keepOld hb1 H2.out.2.1)
  have HZ1 : Hid (w.heap.size + 2 ≤ w1.heap.size) := by have h1 := hb1.size; have h2 := H2.out.2.2.1; show _ ≤ _; omega
  clear hb1
  go_wp2_with ((with_reducible refine wpAt 16 ?_); refine wpList_load_row_g rfl 33 _ rfl (w.heap.size + 1) rfl 33 M2 (0, 0) _ HR2.out Try.underlying33 rfl (infoBlk _ HS2.out) ?_)
  refine (few_any M2 d2 q2 n2 c2 _ (HM2.out.below HB1.out)).mono ?_
  rintro e w3 ⟨rfl, hb3⟩
  rw [HF2.out]
  have HB3 := Lib.hid (HB1.out.trans (hb3.mono HB1.out.size))
  have HZ3 : Hid (w.heap.size + 2 ≤ w3.heap.size) := by have h1 := hb3.size; have h2 := HZ1.out; show _ ≤ _; omega
  have HP3 := Lib.hid (HM.out.parts (Below.keepOld hb3 HR0.out))
  have HNW := Lib.hid (box_new w3 (idA zeros) 30)
  have hbb := box_below w3 (idA zeros) (idA d.hash) 30
  have HL4 : Hid (Lay w ((w3.alloc (.cells (idA zeros) 30)).setRow w3.heap.size (idA d.hash)) M M2 d.hash w.heap.size w3.heap.size) :=
    ⟨Below.keepOld hbb (Below.keepOld hb3 HR0.out), Below.keepOld hbb (Below.keepOld hb3 HR2.out), box_row _ _ _ _, HB3.out.trans (hbb.mono HB3.out.size)⟩
  have HHS : Hid ((idA d.hash).size = 32) := by show _ = _; rw [idA_size, HM.out.hlen]
  have HSZ4 := Lib.hid (box_size w3 (idA zeros) (idA d.hash) 30)
  have hc4 := (HM.out.parts HL4.out.r0).2.2
  clear hb3 hbb
  go_upto_region 4 with (first
    | ((with_reducible refine wpAt 22 ?_); refine wpList_load_mid rfl 30 _ rfl w.heap.size 0 rfl (idA d.hash).toList _ HP3.out.1 Try.underlying30 rfl (infoI _ (by rw [Array.length_toList, HHS.out])) ?_)
    | ((with_reducible refine wpStoreAt 7 ?_); refine wpList_store_row rfl 30 _ _ rfl w3.heap.size (idA d.hash) rfl rfl 30 (idA zeros) HNW.out (infoI _ HHS.out) (zeros_size.trans HHS.out.symm) (idA_one _) ?_))
  generalize (w3.alloc (.cells (idA zeros) 30)).setRow w3.heap.size (idA d.hash) = w4 at *
  simp only [Act.put, List.setIfInBounds_toArray, List.set_cons_zero, List.set_cons_succ]
  go_cut [31] from 12 (fun s31 wx => s31 = .bool (decide (0 < n ∧ k % 2 = 0)) ∧ wx = w4)
  case first =>
    by_cases h1 : 0 < n
    · have hd1 : decide ((0 : Int) < (n : Int)) = true := decide_eq_true (by omega)
      have hd2 : ((k : Int) % 2 == 0) = decide (0 < n ∧ k % 2 = 0) := by
        rw [Bool.eq_iff_iff, beq_iff_eq, decide_eq_true_iff]; omega
      go_wp2_with fail
      go_meet
      exact ⟨congrArg Value.bool (decide_eq_decide.2 ⟨fun h => ⟨h1, h⟩, fun h => h.2⟩), rfl⟩
    · have hd1 : decide ((0 : Int) < (n : Int)) = false := decide_eq_false (by omega)
      have hd2 : decide (0 < n ∧ k % 2 = 0) = false := decide_eq_false (by omega)
      go_wp2_with fail
      go_meet
      exact ⟨by rw [hd2], rfl⟩
  obtain ⟨rfl, hw4⟩ := hcut
  replace HL4 : Hid (Lay w wc M M2 d.hash w.heap.size w3.heap.size) := by rw [hw4]; exact HL4.out
  replace HSZ4 : Hid (wc.heap.size = w3.heap.size + 1) := by rw [hw4]; exact HSZ4.out
  clear hw4 hc4 w4
  have hc4 := (HM.out.parts HL4.out.r0).2.2
  go_upto_if 31 with fail
  go_cut [] from 12 (fun wx => ∃ x : List UInt8, x.length = 32 ∧ Lay w wx M M2 x w.heap.size w3.heap.size)
  case first =>
    by_cases hcase : 0 < n ∧ k % 2 = 0
    · have hd1 : decide (0 < n ∧ k % 2 = 0) = true := decide_eq_true hcase
      rw [hd1]
      obtain ⟨hn0, hk2⟩ := hcase
      clear hd1
      go_wp2_with fail
      obtain ⟨b, o, rfl⟩ := HM.out.ids.sl.addr (by omega) (by omega)
      obtain ⟨m, hm⟩ : ∃ m, m = k / 2 := ⟨_, rfl⟩
      obtain ⟨ix, hixe⟩ : ∃ ix, ix = m % n := ⟨_, rfl⟩
      have hixn : ix < n := by rw [hixe]; exact Nat.mod_lt _ hn0
      have hwu : IntKind.u8.wrap ((k : Int) / 2) = (m : Int) := by rw [IntWalk.u8_in _ (by omega), hm]; omega
      have hwi : IntKind.i64.wrap (m : Int) = (m : Int) := IntWalk.i64_in _ (by omega)
      have hmod1 : (m : Int) % (n : Int) = (ix : Int) := by rw [hixe]; rfl
      have hmod2 : (m : Int).tmod (n : Int) = (ix : Int) := by rw [Int.tmod_eq_emod_of_nonneg (by omega)]; exact hmod1
      have hwx : IntKind.i64.wrap (ix : Int) = (ix : Int) := IntWalk.i64_in _ (by omega)
      have hdv : ((k : Int).tdiv 2) = (m : Int) := by rw [Int.tdiv_eq_ediv_of_nonneg (by omega), hm]; omega
      have hne0 : ¬ (n : Int) = 0 := by omega
      have hneb : ((n : Int) == 0) = false := by rw [beq_eq_false_iff_ne]; omega
      have hnat : ¬ n = 0 := by omega
      have hwm : IntKind.u8.wrap (m : Int) = (m : Int) := IntWalk.u8_in _ (by omega)
      have hix : ix < d.txs.length := by rw [HC.out]; exact hixn
      have HRG := Lib.hid ((HM.out.ids.below HL4.out.below).range (by omega) ix hix)
      have HLX : Hid ((d.txs[ix]'hix).length = 32) := HM.out.ids.each _ (List.getElem_mem _)
      generalize d.txs[ix]'hix = x at *
      have HXS : Hid ((idA x).size = 32) := by show _ = _; rw [idA_size, HLX.out]
      clear hixe hm
      refine wp_region_tail 11 (by kernel_rfl) (by kernel_rfl) ?_
      simp only [List.take_succ_cons, List.take_zero, List.drop_succ_cons, List.drop_zero]
      have hbd := below_drew1 wc.heap.size wc
      have HL5 := Lib.hid (HL4.out.next hbd)
      have hc5 := (HM.out.parts HL5.out.r0).2.2
      have HRG5 : Hid (wc.drew.rangeAt b (o + ix * 32) (idA x).toList) := HRG.out
      have HSZ5 : Hid (wc.drew.heap.size = w3.heap.size + 1) := HSZ4.out
      generalize wc.drew = w5 at *
      clear hbd hc4
      repeat (first
        | refine wpStill_load rfl 30 _ rfl b (o + ix * 32) rfl (idA x) _ HRG5.out Try.underlying30 rfl (infoI _ HXS.out) ?_
        | still_step)
      refine wpStill_nil ?_
      go_wp2_with ((with_reducible refine wpStoreAt 7 ?_); refine wpList_store_row rfl 30 _ _ rfl w3.heap.size (idA x) rfl rfl 30 (idA d.hash) HL5.out.rx (infoI _ HXS.out) (HHS.out.trans HXS.out.symm) (idA_one _) ?_)
      have HL6 : Hid (Lay w (w5.setRow w3.heap.size (idA x)) M M2 x w.heap.size w3.heap.size) :=
        ⟨by rw [setRow_other _ _ _ _ (by have := HZ3.out; omega)]; exact HL5.out.r0, by rw [setRow_other _ _ _ _ (by have := HZ3.out; omega)]; exact HL5.out.r1, setRow_heap _ _ _ _ _ _ HL5.out.rx, below_setRow HL5.out.below HB3.out.size _⟩
      generalize w5.setRow w3.heap.size (idA x) = w6 at *
      go_meet
      exact ⟨x, HLX.out, HL6.out⟩
    · have hd1 : decide (0 < n ∧ k % 2 = 0) = false := decide_eq_false hcase
      rw [hd1]
      clear hd1
      go_wp2_with fail
      go_meet
      exact ⟨d.hash, HM.out.hlen, HL4.out⟩
  obtain ⟨x, hx32, hl6⟩ := hcut
  have HLX := Lib.hid hx32
  have HL6 := Lib.hid hl6
  have HXS : Hid ((idA x).size = 32) := by show _ = _; rw [idA_size, HLX.out]
  clear hx32 hl6 HL4 HSZ4 hc4
  generalize hwc : wc = w6 at *
  clear hwc wc
  clear HP3 HNW
  go_wp2_with fail
  rw [run_arrayAt _ _ _ 16 _ _ _ Try.underlying52 (by omega)]
  simp only [Result.andThen]
  rw [Oper.upon_value]
  have HXT : Hid ((idA (x.take 16)).size = 16) := by show _ = _; rw [idA_size, List.length_take, HLX.out]; rfl
  have HT16 : Hid ((x.take 16).length = 16) := by show _ = _; rw [List.length_take, HLX.out]; rfl
  have HRT := Lib.hid (range_take16 HL6.out.rx)
  have HNH := Lib.hid (box_new w6 (idA zeros16) 52)
  have hbh := box_below w6 (idA zeros16) (idA (x.take 16)) 52
  have HL7 := Lib.hid (HL6.out.next hbh)
  have HRH := Lib.hid (box_row w6 (idA zeros16) (idA (x.take 16)) 52)
  clear hbh
  go_upto_region 7 with (first
    | ((with_reducible refine wpAt 45 ?_); refine wpList_load_mid rfl 52 _ rfl w3.heap.size 0 rfl (idA (x.take 16)).toList _ HRT.out Try.underlying52 rfl (infoH _ (by rw [Array.length_toList, HXT.out])) ?_)
    | ((with_reducible refine wpStoreAt 8 ?_); refine wpList_store_row rfl 52 _ _ rfl w6.heap.size (idA (x.take 16)) rfl rfl 52 (idA zeros16) HNH.out (infoH _ HXT.out) (by rw [HXT.out]; rfl) (idA_one _) ?_))
  generalize (w6.alloc (.cells (idA zeros16) 52)).setRow w6.heap.size (idA (x.take 16)) = w7 at *
  have keep : Hid (∀ w', Below w7.heap.size w7 w' → w'.rangeAt w.heap.size 0 M.toList ∧ w'.rangeAt (w.heap.size + 1) 0 M2.toList ∧ w'.rangeAt w3.heap.size 0 (idA x).toList ∧ w'.rangeAt w6.heap.size 0 (idA (x.take 16)).toList ∧ w'.rangeAt (w.heap.size + 1) 32 (idA d2.par).toList ∧ w'.rangeAt w.heap.size 0 (idA d.hash).toList) := fun w' hb => by
    have hl := HL7.out.next hb
    refine ⟨row_range hl.r0, row_range hl.r1, row_range hl.rx, row_range (Below.keepOld hb HRH.out), (HM2.out.parts hl.r1).2.1, (HM.out.parts hl.r0).1⟩
  have hB : Hid (∀ w', Below w7.heap.size w7 w' → BlkAt w' M d q n c) := fun w' hb => HM.out.below (HL7.out.next hb).below
  have hB2 : Hid (∀ w', Below w7.heap.size w7 w' → BlkAt w' M2 d2 q2 n2 c2) := fun w' hb => HM2.out.below (HL7.out.next hb).below
  have HPS : Hid ((idA d2.par).size = 32) := by show _ = _; rw [idA_size, HM2.out.plen]
  have hq : ∀ w, (Op.equalIn 10000 30 (.agg (idA d2.par)) (.agg (idA d.hash))).run Try.prog w = .ok (d2.par == d.hash) w := fun w => eqI w _ _ HM2.out.plen HM.out.hlen
  simp only [Act.put, List.setIfInBounds_toArray, List.set_cons_zero, List.set_cons_succ]
  clear hz hzh
  refine wp_region_eager [(0, true), (1, true), (3, true), (4, true), (2, false), (5, false), (6, true), (7, true), (8, true), (9, true), (11, true), (12, true), (10, false), (13, false), (14, true), (15, true), (16, true), (17, true), (18, true), (20, true), (21, true), (19, false), (22, false), (23, false), (24, true), (25, true), (26, true), (27, true), (28, true), (30, true), (31, true), (32, true), (33, true), (34, true), (29, false), (35, true), (36, true)] (by kernel_rfl) (by kernel_rfl) (eagerOpen rfl ?_)
  have hy0 : Below w7.heap.size w7 w7.drew := below_drew1 _ _
  repeat (first
    | ((with_reducible refine eagerLoadAt 3 ?_); refine wpEager_load (by rfl) 33 _ rfl w.heap.size 0 rfl M _ (fun w' hb => (keep.out w' hb).1) Try.underlying33 rfl (infoBlk _ HS.out) ?_; (try simp only [Act.put, List.setIfInBounds_toArray, List.set_cons_zero, List.set_cons_succ]); (try refine eagerOpen rfl ?_))
    | ((with_reducible refine eagerLoadAt 4 ?_); refine wpEager_load (by rfl) 33 _ rfl (w.heap.size + 1) 0 rfl M2 _ (fun w' hb => (keep.out w' hb).2.1) Try.underlying33 rfl (infoBlk _ HS2.out) ?_; (try simp only [Act.put, List.setIfInBounds_toArray, List.set_cons_zero, List.set_cons_succ]); (try refine eagerOpen rfl ?_))
    | ((with_reducible refine eagerLoadAt 7 ?_); refine wpEager_load (by rfl) 30 _ rfl w3.heap.size 0 rfl (idA x) _ (fun w' hb => (keep.out w' hb).2.2.1) Try.underlying30 rfl (infoI _ HXS.out) ?_; (try simp only [Act.put, List.setIfInBounds_toArray, List.set_cons_zero, List.set_cons_succ]); (try refine eagerOpen rfl ?_))
    | ((with_reducible refine eagerLoadAt 8 ?_); refine wpEager_load (by rfl) 52 _ rfl w6.heap.size 0 rfl (idA (x.take 16)) _ (fun w' hb => (keep.out w' hb).2.2.2.1) Try.underlying52 rfl (infoH _ HXT.out) ?_; (try simp only [Act.put, List.setIfInBounds_toArray, List.set_cons_zero, List.set_cons_succ]); (try refine eagerOpen rfl ?_))
    | ((with_reducible refine eagerLoadAt 76 ?_); refine wpEager_load (by rfl) 30 _ rfl (w.heap.size + 1) 32 rfl (idA d2.par) _ (fun w' hb => (keep.out w' hb).2.2.2.2.1) Try.underlying30 rfl (infoI _ HPS.out) ?_; (try simp only [Act.put, List.setIfInBounds_toArray, List.set_cons_zero, List.set_cons_succ]); (try refine eagerOpen rfl ?_))
    | ((with_reducible refine eagerLoadAt 78 ?_); refine wpEager_load (by rfl) 30 _ rfl w.heap.size 0 rfl (idA d.hash) _ (fun w' hb => (keep.out w' hb).2.2.2.2.2) Try.underlying30 rfl (infoI _ HHS.out) ?_; (try simp only [Act.put, List.setIfInBounds_toArray, List.set_cons_zero, List.set_cons_succ]); (try refine eagerOpen rfl ?_))
    | (first | (apply wpEager_take; (· rfl); (· (intro w' hb'; go_simp; try with_reducible rfl)); (try simp only [Act.put, List.setIfInBounds_toArray, List.set_cons_zero, List.set_cons_succ]); (try refine eagerOpen rfl ?_)) | (refine wpEager_skip (by rfl) ?_; (try simp only [Act.put, List.setIfInBounds_toArray, List.set_cons_zero, List.set_cons_succ]); (try refine eagerOpen rfl ?_)) | (refine wpEager_off (by rfl) ?_; (try simp only [Act.put, List.setIfInBounds_toArray, List.set_cons_zero, List.set_cons_succ]); (try refine eagerOpen rfl ?_))))
  (refine wpEager_op (by rfl) (fun K hK => ?_); go_simp; (refine (has_any M d _ _ _ x _ (hB.out _ hy0) HLX.out (by omega)).mono ?_; rintro e v1 ⟨rfl, hx1⟩; have hy1 := hy0.trans (hx1.mono hy0.size); clear hx1); refine Shut.out hK _ _ (by assumption) ?_; clear hK K; (try simp only [Act.put, List.setIfInBounds_toArray, List.set_cons_zero, List.set_cons_succ]); (try refine eagerOpen rfl ?_))
  repeat (first
    | ((with_reducible refine eagerLoadAt 3 ?_); refine wpEager_load (by rfl) 33 _ rfl w.heap.size 0 rfl M _ (fun w' hb => (keep.out w' hb).1) Try.underlying33 rfl (infoBlk _ HS.out) ?_; (try simp only [Act.put, List.setIfInBounds_toArray, List.set_cons_zero, List.set_cons_succ]); (try refine eagerOpen rfl ?_))
    | ((with_reducible refine eagerLoadAt 4 ?_); refine wpEager_load (by rfl) 33 _ rfl (w.heap.size + 1) 0 rfl M2 _ (fun w' hb => (keep.out w' hb).2.1) Try.underlying33 rfl (infoBlk _ HS2.out) ?_; (try simp only [Act.put, List.setIfInBounds_toArray, List.set_cons_zero, List.set_cons_succ]); (try refine eagerOpen rfl ?_))
    | ((with_reducible refine eagerLoadAt 7 ?_); refine wpEager_load (by rfl) 30 _ rfl w3.heap.size 0 rfl (idA x) _ (fun w' hb => (keep.out w' hb).2.2.1) Try.underlying30 rfl (infoI _ HXS.out) ?_; (try simp only [Act.put, List.setIfInBounds_toArray, List.set_cons_zero, List.set_cons_succ]); (try refine eagerOpen rfl ?_))
    | ((with_reducible refine eagerLoadAt 8 ?_); refine wpEager_load (by rfl) 52 _ rfl w6.heap.size 0 rfl (idA (x.take 16)) _ (fun w' hb => (keep.out w' hb).2.2.2.1) Try.underlying52 rfl (infoH _ HXT.out) ?_; (try simp only [Act.put, List.setIfInBounds_toArray, List.set_cons_zero, List.set_cons_succ]); (try refine eagerOpen rfl ?_))
    | ((with_reducible refine eagerLoadAt 76 ?_); refine wpEager_load (by rfl) 30 _ rfl (w.heap.size + 1) 32 rfl (idA d2.par) _ (fun w' hb => (keep.out w' hb).2.2.2.2.1) Try.underlying30 rfl (infoI _ HPS.out) ?_; (try simp only [Act.put, List.setIfInBounds_toArray, List.set_cons_zero, List.set_cons_succ]); (try refine eagerOpen rfl ?_))
    | ((with_reducible refine eagerLoadAt 78 ?_); refine wpEager_load (by rfl) 30 _ rfl w.heap.size 0 rfl (idA d.hash) _ (fun w' hb => (keep.out w' hb).2.2.2.2.2) Try.underlying30 rfl (infoI _ HHS.out) ?_; (try simp only [Act.put, List.setIfInBounds_toArray, List.set_cons_zero, List.set_cons_succ]); (try refine eagerOpen rfl ?_))
    | (first | (apply wpEager_take; (· rfl); (· (intro w' hb'; go_simp; try with_reducible rfl)); (try simp only [Act.put, List.setIfInBounds_toArray, List.set_cons_zero, List.set_cons_succ]); (try refine eagerOpen rfl ?_)) | (refine wpEager_skip (by rfl) ?_; (try simp only [Act.put, List.setIfInBounds_toArray, List.set_cons_zero, List.set_cons_succ]); (try refine eagerOpen rfl ?_)) | (refine wpEager_off (by rfl) ?_; (try simp only [Act.put, List.setIfInBounds_toArray, List.set_cons_zero, List.set_cons_succ]); (try refine eagerOpen rfl ?_))))
  (refine wpEager_op (by rfl) (fun K hK => ?_); go_simp; (refine (rHas_any M d _ _ _ x _ (hB.out _ hy1) HLX.out (by omega)).mono ?_; rintro e v2 ⟨rfl, hx2⟩; have hy2 := hy1.trans (hx2.mono hy1.size); clear hx2); refine Shut.out hK _ _ (by assumption) ?_; clear hK K; (try simp only [Act.put, List.setIfInBounds_toArray, List.set_cons_zero, List.set_cons_succ]); (try refine eagerOpen rfl ?_))
  repeat (first
    | ((with_reducible refine eagerLoadAt 3 ?_); refine wpEager_load (by rfl) 33 _ rfl w.heap.size 0 rfl M _ (fun w' hb => (keep.out w' hb).1) Try.underlying33 rfl (infoBlk _ HS.out) ?_; (try simp only [Act.put, List.setIfInBounds_toArray, List.set_cons_zero, List.set_cons_succ]); (try refine eagerOpen rfl ?_))
    | ((with_reducible refine eagerLoadAt 4 ?_); refine wpEager_load (by rfl) 33 _ rfl (w.heap.size + 1) 0 rfl M2 _ (fun w' hb => (keep.out w' hb).2.1) Try.underlying33 rfl (infoBlk _ HS2.out) ?_; (try simp only [Act.put, List.setIfInBounds_toArray, List.set_cons_zero, List.set_cons_succ]); (try refine eagerOpen rfl ?_))
    | ((with_reducible refine eagerLoadAt 7 ?_); refine wpEager_load (by rfl) 30 _ rfl w3.heap.size 0 rfl (idA x) _ (fun w' hb => (keep.out w' hb).2.2.1) Try.underlying30 rfl (infoI _ HXS.out) ?_; (try simp only [Act.put, List.setIfInBounds_toArray, List.set_cons_zero, List.set_cons_succ]); (try refine eagerOpen rfl ?_))
    | ((with_reducible refine eagerLoadAt 8 ?_); refine wpEager_load (by rfl) 52 _ rfl w6.heap.size 0 rfl (idA (x.take 16)) _ (fun w' hb => (keep.out w' hb).2.2.2.1) Try.underlying52 rfl (infoH _ HXT.out) ?_; (try simp only [Act.put, List.setIfInBounds_toArray, List.set_cons_zero, List.set_cons_succ]); (try refine eagerOpen rfl ?_))
    | ((with_reducible refine eagerLoadAt 76 ?_); refine wpEager_load (by rfl) 30 _ rfl (w.heap.size + 1) 32 rfl (idA d2.par) _ (fun w' hb => (keep.out w' hb).2.2.2.2.1) Try.underlying30 rfl (infoI _ HPS.out) ?_; (try simp only [Act.put, List.setIfInBounds_toArray, List.set_cons_zero, List.set_cons_succ]); (try refine eagerOpen rfl ?_))
    | ((with_reducible refine eagerLoadAt 78 ?_); refine wpEager_load (by rfl) 30 _ rfl w.heap.size 0 rfl (idA d.hash) _ (fun w' hb => (keep.out w' hb).2.2.2.2.2) Try.underlying30 rfl (infoI _ HHS.out) ?_; (try simp only [Act.put, List.setIfInBounds_toArray, List.set_cons_zero, List.set_cons_succ]); (try refine eagerOpen rfl ?_))
    | (first | (apply wpEager_take; (· rfl); (· (intro w' hb'; go_simp; try with_reducible rfl)); (try simp only [Act.put, List.setIfInBounds_toArray, List.set_cons_zero, List.set_cons_succ]); (try refine eagerOpen rfl ?_)) | (refine wpEager_skip (by rfl) ?_; (try simp only [Act.put, List.setIfInBounds_toArray, List.set_cons_zero, List.set_cons_succ]); (try refine eagerOpen rfl ?_)) | (refine wpEager_off (by rfl) ?_; (try simp only [Act.put, List.setIfInBounds_toArray, List.set_cons_zero, List.set_cons_succ]); (try refine eagerOpen rfl ?_))))
  (refine wpEager_op (by rfl) (fun K hK => ?_); go_simp; (refine (has_any M2 d2 _ _ _ x _ (hB2.out _ hy2) HLX.out (by omega)).mono ?_; rintro e v3 ⟨rfl, hx3⟩; have hy3 := hy2.trans (hx3.mono hy2.size); clear hx3); refine Shut.out hK _ _ (by assumption) ?_; clear hK K; (try simp only [Act.put, List.setIfInBounds_toArray, List.set_cons_zero, List.set_cons_succ]); (try refine eagerOpen rfl ?_))
  repeat (first
    | ((with_reducible refine eagerLoadAt 3 ?_); refine wpEager_load (by rfl) 33 _ rfl w.heap.size 0 rfl M _ (fun w' hb => (keep.out w' hb).1) Try.underlying33 rfl (infoBlk _ HS.out) ?_; (try simp only [Act.put, List.setIfInBounds_toArray, List.set_cons_zero, List.set_cons_succ]); (try refine eagerOpen rfl ?_))
    | ((with_reducible refine eagerLoadAt 4 ?_); refine wpEager_load (by rfl) 33 _ rfl (w.heap.size + 1) 0 rfl M2 _ (fun w' hb => (keep.out w' hb).2.1) Try.underlying33 rfl (infoBlk _ HS2.out) ?_; (try simp only [Act.put, List.setIfInBounds_toArray, List.set_cons_zero, List.set_cons_succ]); (try refine eagerOpen rfl ?_))
    | ((with_reducible refine eagerLoadAt 7 ?_); refine wpEager_load (by rfl) 30 _ rfl w3.heap.size 0 rfl (idA x) _ (fun w' hb => (keep.out w' hb).2.2.1) Try.underlying30 rfl (infoI _ HXS.out) ?_; (try simp only [Act.put, List.setIfInBounds_toArray, List.set_cons_zero, List.set_cons_succ]); (try refine eagerOpen rfl ?_))
    | ((with_reducible refine eagerLoadAt 8 ?_); refine wpEager_load (by rfl) 52 _ rfl w6.heap.size 0 rfl (idA (x.take 16)) _ (fun w' hb => (keep.out w' hb).2.2.2.1) Try.underlying52 rfl (infoH _ HXT.out) ?_; (try simp only [Act.put, List.setIfInBounds_toArray, List.set_cons_zero, List.set_cons_succ]); (try refine eagerOpen rfl ?_))
    | ((with_reducible refine eagerLoadAt 76 ?_); refine wpEager_load (by rfl) 30 _ rfl (w.heap.size + 1) 32 rfl (idA d2.par) _ (fun w' hb => (keep.out w' hb).2.2.2.2.1) Try.underlying30 rfl (infoI _ HPS.out) ?_; (try simp only [Act.put, List.setIfInBounds_toArray, List.set_cons_zero, List.set_cons_succ]); (try refine eagerOpen rfl ?_))
    | ((with_reducible refine eagerLoadAt 78 ?_); refine wpEager_load (by rfl) 30 _ rfl w.heap.size 0 rfl (idA d.hash) _ (fun w' hb => (keep.out w' hb).2.2.2.2.2) Try.underlying30 rfl (infoI _ HHS.out) ?_; (try simp only [Act.put, List.setIfInBounds_toArray, List.set_cons_zero, List.set_cons_succ]); (try refine eagerOpen rfl ?_))
    | (first | (apply wpEager_take; (· rfl); (· (intro w' hb'; go_simp; try with_reducible rfl)); (try simp only [Act.put, List.setIfInBounds_toArray, List.set_cons_zero, List.set_cons_succ]); (try refine eagerOpen rfl ?_)) | (refine wpEager_skip (by rfl) ?_; (try simp only [Act.put, List.setIfInBounds_toArray, List.set_cons_zero, List.set_cons_succ]); (try refine eagerOpen rfl ?_)) | (refine wpEager_off (by rfl) ?_; (try simp only [Act.put, List.setIfInBounds_toArray, List.set_cons_zero, List.set_cons_succ]); (try refine eagerOpen rfl ?_))))
  (refine wpEager_op (by rfl) (fun K hK => ?_); go_simp; (refine (rHas_any M2 d2 _ _ _ x _ (hB2.out _ hy3) HLX.out (by omega)).mono ?_; rintro e v4 ⟨rfl, hx4⟩; have hy4 := hy3.trans (hx4.mono hy3.size); clear hx4); refine Shut.out hK _ _ (by assumption) ?_; clear hK K; (try simp only [Act.put, List.setIfInBounds_toArray, List.set_cons_zero, List.set_cons_succ]); (try refine eagerOpen rfl ?_))
  repeat (first
    | ((with_reducible refine eagerLoadAt 3 ?_); refine wpEager_load (by rfl) 33 _ rfl w.heap.size 0 rfl M _ (fun w' hb => (keep.out w' hb).1) Try.underlying33 rfl (infoBlk _ HS.out) ?_; (try simp only [Act.put, List.setIfInBounds_toArray, List.set_cons_zero, List.set_cons_succ]); (try refine eagerOpen rfl ?_))
    | ((with_reducible refine eagerLoadAt 4 ?_); refine wpEager_load (by rfl) 33 _ rfl (w.heap.size + 1) 0 rfl M2 _ (fun w' hb => (keep.out w' hb).2.1) Try.underlying33 rfl (infoBlk _ HS2.out) ?_; (try simp only [Act.put, List.setIfInBounds_toArray, List.set_cons_zero, List.set_cons_succ]); (try refine eagerOpen rfl ?_))
    | ((with_reducible refine eagerLoadAt 7 ?_); refine wpEager_load (by rfl) 30 _ rfl w3.heap.size 0 rfl (idA x) _ (fun w' hb => (keep.out w' hb).2.2.1) Try.underlying30 rfl (infoI _ HXS.out) ?_; (try simp only [Act.put, List.setIfInBounds_toArray, List.set_cons_zero, List.set_cons_succ]); (try refine eagerOpen rfl ?_))
    | ((with_reducible refine eagerLoadAt 8 ?_); refine wpEager_load (by rfl) 52 _ rfl w6.heap.size 0 rfl (idA (x.take 16)) _ (fun w' hb => (keep.out w' hb).2.2.2.1) Try.underlying52 rfl (infoH _ HXT.out) ?_; (try simp only [Act.put, List.setIfInBounds_toArray, List.set_cons_zero, List.set_cons_succ]); (try refine eagerOpen rfl ?_))
    | ((with_reducible refine eagerLoadAt 76 ?_); refine wpEager_load (by rfl) 30 _ rfl (w.heap.size + 1) 32 rfl (idA d2.par) _ (fun w' hb => (keep.out w' hb).2.2.2.2.1) Try.underlying30 rfl (infoI _ HPS.out) ?_; (try simp only [Act.put, List.setIfInBounds_toArray, List.set_cons_zero, List.set_cons_succ]); (try refine eagerOpen rfl ?_))
    | ((with_reducible refine eagerLoadAt 78 ?_); refine wpEager_load (by rfl) 30 _ rfl w.heap.size 0 rfl (idA d.hash) _ (fun w' hb => (keep.out w' hb).2.2.2.2.2) Try.underlying30 rfl (infoI _ HHS.out) ?_; (try simp only [Act.put, List.setIfInBounds_toArray, List.set_cons_zero, List.set_cons_succ]); (try refine eagerOpen rfl ?_))
    | (first | (apply wpEager_take; (· rfl); (· (intro w' hb'; go_simp; try with_reducible rfl)); (try simp only [Act.put, List.setIfInBounds_toArray, List.set_cons_zero, List.set_cons_succ]); (try refine eagerOpen rfl ?_)) | (refine wpEager_skip (by rfl) ?_; (try simp only [Act.put, List.setIfInBounds_toArray, List.set_cons_zero, List.set_cons_succ]); (try refine eagerOpen rfl ?_)) | (refine wpEager_off (by rfl) ?_; (try simp only [Act.put, List.setIfInBounds_toArray, List.set_cons_zero, List.set_cons_succ]); (try refine eagerOpen rfl ?_))))
  (refine wpEager_op (by rfl) (fun K hK => ?_); go_simp; (refine (hinted_any M d _ _ _ (x.take 16) _ (hB.out _ hy4) HT16.out (by omega)).mono ?_; rintro e v5 ⟨p5, c5, rfl, hi5, hf5, hx5⟩; have hy5 := hy4.trans (hx5.mono hy4.size); have HI5 := Lib.hid hi5; clear hx5 hi5 hf5); refine Shut.out hK _ _ (by assumption) ?_; clear hK K; (try simp only [Act.put, List.setIfInBounds_toArray, List.set_cons_zero, List.set_cons_succ]); (try refine eagerOpen rfl ?_))
  repeat (first
    | ((with_reducible refine eagerLoadAt 3 ?_); refine wpEager_load (by rfl) 33 _ rfl w.heap.size 0 rfl M _ (fun w' hb => (keep.out w' hb).1) Try.underlying33 rfl (infoBlk _ HS.out) ?_; (try simp only [Act.put, List.setIfInBounds_toArray, List.set_cons_zero, List.set_cons_succ]); (try refine eagerOpen rfl ?_))
    | ((with_reducible refine eagerLoadAt 4 ?_); refine wpEager_load (by rfl) 33 _ rfl (w.heap.size + 1) 0 rfl M2 _ (fun w' hb => (keep.out w' hb).2.1) Try.underlying33 rfl (infoBlk _ HS2.out) ?_; (try simp only [Act.put, List.setIfInBounds_toArray, List.set_cons_zero, List.set_cons_succ]); (try refine eagerOpen rfl ?_))
    | ((with_reducible refine eagerLoadAt 7 ?_); refine wpEager_load (by rfl) 30 _ rfl w3.heap.size 0 rfl (idA x) _ (fun w' hb => (keep.out w' hb).2.2.1) Try.underlying30 rfl (infoI _ HXS.out) ?_; (try simp only [Act.put, List.setIfInBounds_toArray, List.set_cons_zero, List.set_cons_succ]); (try refine eagerOpen rfl ?_))
    | ((with_reducible refine eagerLoadAt 8 ?_); refine wpEager_load (by rfl) 52 _ rfl w6.heap.size 0 rfl (idA (x.take 16)) _ (fun w' hb => (keep.out w' hb).2.2.2.1) Try.underlying52 rfl (infoH _ HXT.out) ?_; (try simp only [Act.put, List.setIfInBounds_toArray, List.set_cons_zero, List.set_cons_succ]); (try refine eagerOpen rfl ?_))
    | ((with_reducible refine eagerLoadAt 76 ?_); refine wpEager_load (by rfl) 30 _ rfl (w.heap.size + 1) 32 rfl (idA d2.par) _ (fun w' hb => (keep.out w' hb).2.2.2.2.1) Try.underlying30 rfl (infoI _ HPS.out) ?_; (try simp only [Act.put, List.setIfInBounds_toArray, List.set_cons_zero, List.set_cons_succ]); (try refine eagerOpen rfl ?_))
    | ((with_reducible refine eagerLoadAt 78 ?_); refine wpEager_load (by rfl) 30 _ rfl w.heap.size 0 rfl (idA d.hash) _ (fun w' hb => (keep.out w' hb).2.2.2.2.2) Try.underlying30 rfl (infoI _ HHS.out) ?_; (try simp only [Act.put, List.setIfInBounds_toArray, List.set_cons_zero, List.set_cons_succ]); (try refine eagerOpen rfl ?_))
    | (first | (apply wpEager_take; (· rfl); (· (intro w' hb'; go_simp; try with_reducible rfl)); (try simp only [Act.put, List.setIfInBounds_toArray, List.set_cons_zero, List.set_cons_succ]); (try refine eagerOpen rfl ?_)) | (refine wpEager_skip (by rfl) ?_; (try simp only [Act.put, List.setIfInBounds_toArray, List.set_cons_zero, List.set_cons_succ]); (try refine eagerOpen rfl ?_)) | (refine wpEager_off (by rfl) ?_; (try simp only [Act.put, List.setIfInBounds_toArray, List.set_cons_zero, List.set_cons_succ]); (try refine eagerOpen rfl ?_))))
  (refine wpEager_op (by rfl) (fun K hK => ?_); go_simp; (refine (rHinted_any M d _ _ _ (x.take 16) _ (hB.out _ hy5) HT16.out (by omega)).mono ?_; rintro e v6 ⟨p6, c6, rfl, hi6, hf6, hx6⟩; have hy6 := hy5.trans (hx6.mono hy5.size); have HI6 := Lib.hid hi6; have HJ5 := Lib.hid (HI5.out.below hx6); clear hx6 hi6 hf6); refine Shut.out hK _ _ (by assumption) ?_; clear hK K; (try simp only [Act.put, List.setIfInBounds_toArray, List.set_cons_zero, List.set_cons_succ]); (try refine eagerOpen rfl ?_))
  repeat (first
    | ((with_reducible refine eagerLoadAt 3 ?_); refine wpEager_load (by rfl) 33 _ rfl w.heap.size 0 rfl M _ (fun w' hb => (keep.out w' hb).1) Try.underlying33 rfl (infoBlk _ HS.out) ?_; (try simp only [Act.put, List.setIfInBounds_toArray, List.set_cons_zero, List.set_cons_succ]); (try refine eagerOpen rfl ?_))
    | ((with_reducible refine eagerLoadAt 4 ?_); refine wpEager_load (by rfl) 33 _ rfl (w.heap.size + 1) 0 rfl M2 _ (fun w' hb => (keep.out w' hb).2.1) Try.underlying33 rfl (infoBlk _ HS2.out) ?_; (try simp only [Act.put, List.setIfInBounds_toArray, List.set_cons_zero, List.set_cons_succ]); (try refine eagerOpen rfl ?_))
    | ((with_reducible refine eagerLoadAt 7 ?_); refine wpEager_load (by rfl) 30 _ rfl w3.heap.size 0 rfl (idA x) _ (fun w' hb => (keep.out w' hb).2.2.1) Try.underlying30 rfl (infoI _ HXS.out) ?_; (try simp only [Act.put, List.setIfInBounds_toArray, List.set_cons_zero, List.set_cons_succ]); (try refine eagerOpen rfl ?_))
    | ((with_reducible refine eagerLoadAt 8 ?_); refine wpEager_load (by rfl) 52 _ rfl w6.heap.size 0 rfl (idA (x.take 16)) _ (fun w' hb => (keep.out w' hb).2.2.2.1) Try.underlying52 rfl (infoH _ HXT.out) ?_; (try simp only [Act.put, List.setIfInBounds_toArray, List.set_cons_zero, List.set_cons_succ]); (try refine eagerOpen rfl ?_))
    | ((with_reducible refine eagerLoadAt 76 ?_); refine wpEager_load (by rfl) 30 _ rfl (w.heap.size + 1) 32 rfl (idA d2.par) _ (fun w' hb => (keep.out w' hb).2.2.2.2.1) Try.underlying30 rfl (infoI _ HPS.out) ?_; (try simp only [Act.put, List.setIfInBounds_toArray, List.set_cons_zero, List.set_cons_succ]); (try refine eagerOpen rfl ?_))
    | ((with_reducible refine eagerLoadAt 78 ?_); refine wpEager_load (by rfl) 30 _ rfl w.heap.size 0 rfl (idA d.hash) _ (fun w' hb => (keep.out w' hb).2.2.2.2.2) Try.underlying30 rfl (infoI _ HHS.out) ?_; (try simp only [Act.put, List.setIfInBounds_toArray, List.set_cons_zero, List.set_cons_succ]); (try refine eagerOpen rfl ?_))
    | (first | (apply wpEager_take; (· rfl); (· (intro w' hb'; go_simp; try with_reducible rfl)); (try simp only [Act.put, List.setIfInBounds_toArray, List.set_cons_zero, List.set_cons_succ]); (try refine eagerOpen rfl ?_)) | (refine wpEager_skip (by rfl) ?_; (try simp only [Act.put, List.setIfInBounds_toArray, List.set_cons_zero, List.set_cons_succ]); (try refine eagerOpen rfl ?_)) | (refine wpEager_off (by rfl) ?_; (try simp only [Act.put, List.setIfInBounds_toArray, List.set_cons_zero, List.set_cons_succ]); (try refine eagerOpen rfl ?_))))
  (refine wpEager_op (by rfl) (fun K hK => ?_); go_simp; (refine (idsSame_any _ _ _ _ _ _ _ _ _ HJ5.out HI6.out).mono ?_; rintro e v7 ⟨rfl, hx7⟩; rw [beq_self_eq_true]; have hy7 := hy6.trans (hx7.mono hy6.size); clear hx7); refine Shut.out hK _ _ (by assumption) ?_; clear hK K; (try simp only [Act.put, List.setIfInBounds_toArray, List.set_cons_zero, List.set_cons_succ]); (try refine eagerOpen rfl ?_))
  repeat (first
    | ((with_reducible refine eagerLoadAt 3 ?_); refine wpEager_load (by rfl) 33 _ rfl w.heap.size 0 rfl M _ (fun w' hb => (keep.out w' hb).1) Try.underlying33 rfl (infoBlk _ HS.out) ?_; (try simp only [Act.put, List.setIfInBounds_toArray, List.set_cons_zero, List.set_cons_succ]); (try refine eagerOpen rfl ?_))
    | ((with_reducible refine eagerLoadAt 4 ?_); refine wpEager_load (by rfl) 33 _ rfl (w.heap.size + 1) 0 rfl M2 _ (fun w' hb => (keep.out w' hb).2.1) Try.underlying33 rfl (infoBlk _ HS2.out) ?_; (try simp only [Act.put, List.setIfInBounds_toArray, List.set_cons_zero, List.set_cons_succ]); (try refine eagerOpen rfl ?_))
    | ((with_reducible refine eagerLoadAt 7 ?_); refine wpEager_load (by rfl) 30 _ rfl w3.heap.size 0 rfl (idA x) _ (fun w' hb => (keep.out w' hb).2.2.1) Try.underlying30 rfl (infoI _ HXS.out) ?_; (try simp only [Act.put, List.setIfInBounds_toArray, List.set_cons_zero, List.set_cons_succ]); (try refine eagerOpen rfl ?_))
    | ((with_reducible refine eagerLoadAt 8 ?_); refine wpEager_load (by rfl) 52 _ rfl w6.heap.size 0 rfl (idA (x.take 16)) _ (fun w' hb => (keep.out w' hb).2.2.2.1) Try.underlying52 rfl (infoH _ HXT.out) ?_; (try simp only [Act.put, List.setIfInBounds_toArray, List.set_cons_zero, List.set_cons_succ]); (try refine eagerOpen rfl ?_))
    | ((with_reducible refine eagerLoadAt 76 ?_); refine wpEager_load (by rfl) 30 _ rfl (w.heap.size + 1) 32 rfl (idA d2.par) _ (fun w' hb => (keep.out w' hb).2.2.2.2.1) Try.underlying30 rfl (infoI _ HPS.out) ?_; (try simp only [Act.put, List.setIfInBounds_toArray, List.set_cons_zero, List.set_cons_succ]); (try refine eagerOpen rfl ?_))
    | ((with_reducible refine eagerLoadAt 78 ?_); refine wpEager_load (by rfl) 30 _ rfl w.heap.size 0 rfl (idA d.hash) _ (fun w' hb => (keep.out w' hb).2.2.2.2.2) Try.underlying30 rfl (infoI _ HHS.out) ?_; (try simp only [Act.put, List.setIfInBounds_toArray, List.set_cons_zero, List.set_cons_succ]); (try refine eagerOpen rfl ?_))
    | (first | (apply wpEager_take; (· rfl); (· (intro w' hb'; go_simp; try with_reducible rfl)); (try simp only [Act.put, List.setIfInBounds_toArray, List.set_cons_zero, List.set_cons_succ]); (try refine eagerOpen rfl ?_)) | (refine wpEager_skip (by rfl) ?_; (try simp only [Act.put, List.setIfInBounds_toArray, List.set_cons_zero, List.set_cons_succ]); (try refine eagerOpen rfl ?_)) | (refine wpEager_off (by rfl) ?_; (try simp only [Act.put, List.setIfInBounds_toArray, List.set_cons_zero, List.set_cons_succ]); (try refine eagerOpen rfl ?_))))
  (refine wpEager_op (by rfl) (fun K hK => ?_); go_simp; (refine (child_any M M2 d d2 _ _ _ _ _ _ _ (hB.out _ hy7) (hB2.out _ hy7)).mono ?_; rintro e v8 ⟨rfl, hx8⟩; have hy8 := hy7.trans (hx8.mono hy7.size); clear hx8); refine Shut.out hK _ _ (by assumption) ?_; clear hK K; (try simp only [Act.put, List.setIfInBounds_toArray, List.set_cons_zero, List.set_cons_succ]); (try refine eagerOpen rfl ?_))
  repeat (first
    | ((with_reducible refine eagerLoadAt 3 ?_); refine wpEager_load (by rfl) 33 _ rfl w.heap.size 0 rfl M _ (fun w' hb => (keep.out w' hb).1) Try.underlying33 rfl (infoBlk _ HS.out) ?_; (try simp only [Act.put, List.setIfInBounds_toArray, List.set_cons_zero, List.set_cons_succ]); (try refine eagerOpen rfl ?_))
    | ((with_reducible refine eagerLoadAt 4 ?_); refine wpEager_load (by rfl) 33 _ rfl (w.heap.size + 1) 0 rfl M2 _ (fun w' hb => (keep.out w' hb).2.1) Try.underlying33 rfl (infoBlk _ HS2.out) ?_; (try simp only [Act.put, List.setIfInBounds_toArray, List.set_cons_zero, List.set_cons_succ]); (try refine eagerOpen rfl ?_))
    | ((with_reducible refine eagerLoadAt 7 ?_); refine wpEager_load (by rfl) 30 _ rfl w3.heap.size 0 rfl (idA x) _ (fun w' hb => (keep.out w' hb).2.2.1) Try.underlying30 rfl (infoI _ HXS.out) ?_; (try simp only [Act.put, List.setIfInBounds_toArray, List.set_cons_zero, List.set_cons_succ]); (try refine eagerOpen rfl ?_))
    | ((with_reducible refine eagerLoadAt 8 ?_); refine wpEager_load (by rfl) 52 _ rfl w6.heap.size 0 rfl (idA (x.take 16)) _ (fun w' hb => (keep.out w' hb).2.2.2.1) Try.underlying52 rfl (infoH _ HXT.out) ?_; (try simp only [Act.put, List.setIfInBounds_toArray, List.set_cons_zero, List.set_cons_succ]); (try refine eagerOpen rfl ?_))
    | ((with_reducible refine eagerLoadAt 76 ?_); refine wpEager_load (by rfl) 30 _ rfl (w.heap.size + 1) 32 rfl (idA d2.par) _ (fun w' hb => (keep.out w' hb).2.2.2.2.1) Try.underlying30 rfl (infoI _ HPS.out) ?_; (try simp only [Act.put, List.setIfInBounds_toArray, List.set_cons_zero, List.set_cons_succ]); (try refine eagerOpen rfl ?_))
    | ((with_reducible refine eagerLoadAt 78 ?_); refine wpEager_load (by rfl) 30 _ rfl w.heap.size 0 rfl (idA d.hash) _ (fun w' hb => (keep.out w' hb).2.2.2.2.2) Try.underlying30 rfl (infoI _ HHS.out) ?_; (try simp only [Act.put, List.setIfInBounds_toArray, List.set_cons_zero, List.set_cons_succ]); (try refine eagerOpen rfl ?_))
    | (first | (apply wpEager_take; (· rfl); (· (intro w' hb'; go_simp; try with_reducible rfl)); (try simp only [Act.put, List.setIfInBounds_toArray, List.set_cons_zero, List.set_cons_succ]); (try refine eagerOpen rfl ?_)) | (refine wpEager_skip (by rfl) ?_; (try simp only [Act.put, List.setIfInBounds_toArray, List.set_cons_zero, List.set_cons_succ]); (try refine eagerOpen rfl ?_)) | (refine wpEager_off (by rfl) ?_; (try simp only [Act.put, List.setIfInBounds_toArray, List.set_cons_zero, List.set_cons_succ]); (try refine eagerOpen rfl ?_))))
  refine eagerEnd ?_
  have HL8 := Lib.hid (HL7.out.next hy8)
  clear hy0 hy1 hy2 hy3 hy4 hy5 hy6 hy7 keep hB hB2 hq HI5 HI6 HJ5 HRT HNH HL7 HRH HL6
  clear v1 v2 v3 v4 v5 v6 v7
  go_wp2_with ((with_reducible refine wpAt 83 ?_); refine wpList_load_row rfl 33 _ rfl w.heap.size rfl 33 M (0, 0) _ HL8.out.r0 Try.underlying33 rfl (infoBlk _ HS.out) ?_)
  refine (copy_any M d _ n c _ (HM.out.below HL8.out.below) (by omega)).mono ?_
  rintro e y9 ⟨p9, c9, rfl, ho9, hb9⟩
  rw [HC.out] at ho9 ⊢
  have HO9 := Lib.hid ho9
  have HN9 : Hid (BlkAt y9 (blkA d.hash d.par p9 n c9) d p9 n c9) := copy_at HM.out.hlen HM.out.plen HM.out.ids.each HC.out ho9
  have HL9 := Lib.hid (HL8.out.next hb9)
  have HZ9 := Lib.hid hb9.size
  obtain ⟨A9, hA9⟩ : ∃ A, A = blkA d.hash d.par p9 n c9 := ⟨_, rfl⟩
  rw [← hA9] at HN9 ⊢
  clear hA9
  have HS9 := Lib.hid HN9.out.size
  have HE9 := Lib.hid HN9.out.one
  have hzb : ∃ Z : Array Value, (∀ w0, (zeroValue 33).run Try.prog w0 = .ok (.agg Z) w0) ∧ Z.size = 65 := ⟨blkA zeros zeros none 0 0, fun w0 => by kernel_rfl, by kernel_rfl⟩
  obtain ⟨Z, hz, hZ⟩ := hzb
  have HZZ := Lib.hid hZ
  have HNB := Lib.hid (box_new y9 Z 33)
  have hbb := box_below y9 Z A9 33
  have HL10 := Lib.hid (HL9.out.next hbb)
  have HR10 := Lib.hid (box_row y9 Z A9 33)
  have HS10 := Lib.hid (box_size y9 Z A9 33)
  have HN10 := Lib.hid (HN9.out.below hbb)
  have HO10 : Hid (((y9.alloc (.cells Z 33)).setRow y9.heap.size A9).ownsRow v8.heap.size 30 32 (.slice p9 n c9) n (d.txs.flatMap bytesV)) :=
    own_touch (HO9.out.alloc _) (turns_setRow _ y9.heap.size A9) (fun k hk e => by have := HO9.out.lt k hk; omega)
  clear ho9 hb9 hbb hZ
  go_upto_region 10 with ((with_reducible refine wpStoreAt 9 ?_); refine wpList_store_row rfl 33 _ _ rfl y9.heap.size A9 rfl rfl 33 Z HNB.out (infoBlk _ HS9.out) (by rw [HZZ.out, HS9.out]) HE9.out ?_)
  generalize (y9.alloc (.cells Z 33)).setRow y9.heap.size A9 = w9 at *
  try simp only [Act.put, List.setIfInBounds_toArray, List.set_cons_zero, List.set_cons_succ]
  have keep : Hid (∀ w', Below w9.heap.size w9 w' → w'.rangeAt w.heap.size 0 M.toList ∧ w'.rangeAt (w.heap.size + 1) 0 M2.toList ∧ w'.rangeAt y9.heap.size 0 A9.toList) := fun w' hb => by
    have hl := HL10.out.next hb
    exact ⟨row_range hl.r0, row_range hl.r1, row_range (Below.keepOld hb HR10.out)⟩
  have hB : Hid (∀ w', Below w9.heap.size w9 w' → BlkAt w' M d q n c) := fun w' hb => HM.out.below (HL10.out.next hb).below
  have hB2 : Hid (∀ w', Below w9.heap.size w9 w' → BlkAt w' M2 d2 q2 n2 c2) := fun w' hb => HM2.out.below (HL10.out.next hb).below
  have hB9 : Hid (∀ w', Below w9.heap.size w9 w' → BlkAt w' A9 d p9 n c9) := fun w' hb => HN10.out.below hb
  refine wp_region_eager [(0, true), (1, true), (3, true), (4, true), (2, false), (5, false), (6, true), (7, true), (8, true), (9, true), (10, false), (11, true), (12, true), (13, true), (14, true), (15, true), (16, false), (17, true), (18, true)] (by kernel_rfl) (by kernel_rfl) (eagerOpen rfl ?_)
  have hy0 : Below w9.heap.size w9 w9.drew := below_drew1 _ _
  repeat (first
    | ((with_reducible refine eagerLoadAt 3 ?_); refine wpEager_load (by rfl) 33 _ rfl w.heap.size 0 rfl M _ (fun w' hb => (keep.out w' hb).1) Try.underlying33 rfl (infoBlk _ HS.out) ?_; (try simp only [Act.put, List.setIfInBounds_toArray, List.set_cons_zero, List.set_cons_succ]); (try refine eagerOpen rfl ?_))
    | ((with_reducible refine eagerLoadAt 4 ?_); refine wpEager_load (by rfl) 33 _ rfl (w.heap.size + 1) 0 rfl M2 _ (fun w' hb => (keep.out w' hb).2.1) Try.underlying33 rfl (infoBlk _ HS2.out) ?_; (try simp only [Act.put, List.setIfInBounds_toArray, List.set_cons_zero, List.set_cons_succ]); (try refine eagerOpen rfl ?_))
    | ((with_reducible refine eagerLoadAt 9 ?_); refine wpEager_load (by rfl) 33 _ rfl y9.heap.size 0 rfl A9 _ (fun w' hb => (keep.out w' hb).2.2) Try.underlying33 rfl (infoBlk _ HS9.out) ?_; (try simp only [Act.put, List.setIfInBounds_toArray, List.set_cons_zero, List.set_cons_succ]); (try refine eagerOpen rfl ?_))
    | (first | (apply wpEager_take; (· rfl); (· (intro w' hb'; go_simp; try with_reducible rfl)); (try simp only [Act.put, List.setIfInBounds_toArray, List.set_cons_zero, List.set_cons_succ]); (try refine eagerOpen rfl ?_)) | (refine wpEager_skip (by rfl) ?_; (try simp only [Act.put, List.setIfInBounds_toArray, List.set_cons_zero, List.set_cons_succ]); (try refine eagerOpen rfl ?_)) | (refine wpEager_off (by rfl) ?_; (try simp only [Act.put, List.setIfInBounds_toArray, List.set_cons_zero, List.set_cons_succ]); (try refine eagerOpen rfl ?_))))
  (refine wpEager_op (by rfl) (fun K hK => ?_); go_simp; (refine (same_any M M2 d d2 _ _ _ _ _ _ _ (hB.out _ hy0) (hB2.out _ hy0)).mono ?_; rintro e v1 ⟨rfl, hx1⟩; have hy1 := hy0.trans (hx1.mono hy0.size); clear hx1); refine Shut.out hK _ _ (by assumption) ?_; clear hK K; (try simp only [Act.put, List.setIfInBounds_toArray, List.set_cons_zero, List.set_cons_succ]); (try refine eagerOpen rfl ?_))
  repeat (first
    | ((with_reducible refine eagerLoadAt 3 ?_); refine wpEager_load (by rfl) 33 _ rfl w.heap.size 0 rfl M _ (fun w' hb => (keep.out w' hb).1) Try.underlying33 rfl (infoBlk _ HS.out) ?_; (try simp only [Act.put, List.setIfInBounds_toArray, List.set_cons_zero, List.set_cons_succ]); (try refine eagerOpen rfl ?_))
    | ((with_reducible refine eagerLoadAt 4 ?_); refine wpEager_load (by rfl) 33 _ rfl (w.heap.size + 1) 0 rfl M2 _ (fun w' hb => (keep.out w' hb).2.1) Try.underlying33 rfl (infoBlk _ HS2.out) ?_; (try simp only [Act.put, List.setIfInBounds_toArray, List.set_cons_zero, List.set_cons_succ]); (try refine eagerOpen rfl ?_))
    | ((with_reducible refine eagerLoadAt 9 ?_); refine wpEager_load (by rfl) 33 _ rfl y9.heap.size 0 rfl A9 _ (fun w' hb => (keep.out w' hb).2.2) Try.underlying33 rfl (infoBlk _ HS9.out) ?_; (try simp only [Act.put, List.setIfInBounds_toArray, List.set_cons_zero, List.set_cons_succ]); (try refine eagerOpen rfl ?_))
    | (first | (apply wpEager_take; (· rfl); (· (intro w' hb'; go_simp; try with_reducible rfl)); (try simp only [Act.put, List.setIfInBounds_toArray, List.set_cons_zero, List.set_cons_succ]); (try refine eagerOpen rfl ?_)) | (refine wpEager_skip (by rfl) ?_; (try simp only [Act.put, List.setIfInBounds_toArray, List.set_cons_zero, List.set_cons_succ]); (try refine eagerOpen rfl ?_)) | (refine wpEager_off (by rfl) ?_; (try simp only [Act.put, List.setIfInBounds_toArray, List.set_cons_zero, List.set_cons_succ]); (try refine eagerOpen rfl ?_))))
  (refine wpEager_op (by rfl) (fun K hK => ?_); go_simp; (refine (rSame_any M M2 d d2 _ _ _ _ _ _ _ (hB.out _ hy1) (hB2.out _ hy1)).mono ?_; rintro e v2 ⟨rfl, hx2⟩; have hy2 := hy1.trans (hx2.mono hy1.size); clear hx2); refine Shut.out hK _ _ (by assumption) ?_; clear hK K; (try simp only [Act.put, List.setIfInBounds_toArray, List.set_cons_zero, List.set_cons_succ]); (try refine eagerOpen rfl ?_))
  repeat (first
    | ((with_reducible refine eagerLoadAt 3 ?_); refine wpEager_load (by rfl) 33 _ rfl w.heap.size 0 rfl M _ (fun w' hb => (keep.out w' hb).1) Try.underlying33 rfl (infoBlk _ HS.out) ?_; (try simp only [Act.put, List.setIfInBounds_toArray, List.set_cons_zero, List.set_cons_succ]); (try refine eagerOpen rfl ?_))
    | ((with_reducible refine eagerLoadAt 4 ?_); refine wpEager_load (by rfl) 33 _ rfl (w.heap.size + 1) 0 rfl M2 _ (fun w' hb => (keep.out w' hb).2.1) Try.underlying33 rfl (infoBlk _ HS2.out) ?_; (try simp only [Act.put, List.setIfInBounds_toArray, List.set_cons_zero, List.set_cons_succ]); (try refine eagerOpen rfl ?_))
    | ((with_reducible refine eagerLoadAt 9 ?_); refine wpEager_load (by rfl) 33 _ rfl y9.heap.size 0 rfl A9 _ (fun w' hb => (keep.out w' hb).2.2) Try.underlying33 rfl (infoBlk _ HS9.out) ?_; (try simp only [Act.put, List.setIfInBounds_toArray, List.set_cons_zero, List.set_cons_succ]); (try refine eagerOpen rfl ?_))
    | (first | (apply wpEager_take; (· rfl); (· (intro w' hb'; go_simp; try with_reducible rfl)); (try simp only [Act.put, List.setIfInBounds_toArray, List.set_cons_zero, List.set_cons_succ]); (try refine eagerOpen rfl ?_)) | (refine wpEager_skip (by rfl) ?_; (try simp only [Act.put, List.setIfInBounds_toArray, List.set_cons_zero, List.set_cons_succ]); (try refine eagerOpen rfl ?_)) | (refine wpEager_off (by rfl) ?_; (try simp only [Act.put, List.setIfInBounds_toArray, List.set_cons_zero, List.set_cons_succ]); (try refine eagerOpen rfl ?_))))
  (refine wpEager_op (by rfl) (fun K hK => ?_); go_simp; (refine (same_any M A9 d d _ _ _ _ _ _ _ (hB.out _ hy2) (hB9.out _ hy2)).mono ?_; rintro e v3 ⟨rfl, hx3⟩; rw [sameB_self]; have hy3 := hy2.trans (hx3.mono hy2.size); clear hx3); refine Shut.out hK _ _ (by assumption) ?_; clear hK K; (try simp only [Act.put, List.setIfInBounds_toArray, List.set_cons_zero, List.set_cons_succ]); (try refine eagerOpen rfl ?_))
  repeat (first
    | ((with_reducible refine eagerLoadAt 3 ?_); refine wpEager_load (by rfl) 33 _ rfl w.heap.size 0 rfl M _ (fun w' hb => (keep.out w' hb).1) Try.underlying33 rfl (infoBlk _ HS.out) ?_; (try simp only [Act.put, List.setIfInBounds_toArray, List.set_cons_zero, List.set_cons_succ]); (try refine eagerOpen rfl ?_))
    | ((with_reducible refine eagerLoadAt 4 ?_); refine wpEager_load (by rfl) 33 _ rfl (w.heap.size + 1) 0 rfl M2 _ (fun w' hb => (keep.out w' hb).2.1) Try.underlying33 rfl (infoBlk _ HS2.out) ?_; (try simp only [Act.put, List.setIfInBounds_toArray, List.set_cons_zero, List.set_cons_succ]); (try refine eagerOpen rfl ?_))
    | ((with_reducible refine eagerLoadAt 9 ?_); refine wpEager_load (by rfl) 33 _ rfl y9.heap.size 0 rfl A9 _ (fun w' hb => (keep.out w' hb).2.2) Try.underlying33 rfl (infoBlk _ HS9.out) ?_; (try simp only [Act.put, List.setIfInBounds_toArray, List.set_cons_zero, List.set_cons_succ]); (try refine eagerOpen rfl ?_))
    | (first | (apply wpEager_take; (· rfl); (· (intro w' hb'; go_simp; try with_reducible rfl)); (try simp only [Act.put, List.setIfInBounds_toArray, List.set_cons_zero, List.set_cons_succ]); (try refine eagerOpen rfl ?_)) | (refine wpEager_skip (by rfl) ?_; (try simp only [Act.put, List.setIfInBounds_toArray, List.set_cons_zero, List.set_cons_succ]); (try refine eagerOpen rfl ?_)) | (refine wpEager_off (by rfl) ?_; (try simp only [Act.put, List.setIfInBounds_toArray, List.set_cons_zero, List.set_cons_succ]); (try refine eagerOpen rfl ?_))))
  (refine wpEager_op (by rfl) (fun K hK => ?_); go_simp; (refine (rSame_any M A9 d d _ _ _ _ _ _ _ (hB.out _ hy3) (hB9.out _ hy3)).mono ?_; rintro e v4 ⟨rfl, hx4⟩; rw [sameB_self]; have hy4 := hy3.trans (hx4.mono hy3.size); clear hx4); refine Shut.out hK _ _ (by assumption) ?_; clear hK K; (try simp only [Act.put, List.setIfInBounds_toArray, List.set_cons_zero, List.set_cons_succ]); (try refine eagerOpen rfl ?_))
  repeat (first
    | ((with_reducible refine eagerLoadAt 3 ?_); refine wpEager_load (by rfl) 33 _ rfl w.heap.size 0 rfl M _ (fun w' hb => (keep.out w' hb).1) Try.underlying33 rfl (infoBlk _ HS.out) ?_; (try simp only [Act.put, List.setIfInBounds_toArray, List.set_cons_zero, List.set_cons_succ]); (try refine eagerOpen rfl ?_))
    | ((with_reducible refine eagerLoadAt 4 ?_); refine wpEager_load (by rfl) 33 _ rfl (w.heap.size + 1) 0 rfl M2 _ (fun w' hb => (keep.out w' hb).2.1) Try.underlying33 rfl (infoBlk _ HS2.out) ?_; (try simp only [Act.put, List.setIfInBounds_toArray, List.set_cons_zero, List.set_cons_succ]); (try refine eagerOpen rfl ?_))
    | ((with_reducible refine eagerLoadAt 9 ?_); refine wpEager_load (by rfl) 33 _ rfl y9.heap.size 0 rfl A9 _ (fun w' hb => (keep.out w' hb).2.2) Try.underlying33 rfl (infoBlk _ HS9.out) ?_; (try simp only [Act.put, List.setIfInBounds_toArray, List.set_cons_zero, List.set_cons_succ]); (try refine eagerOpen rfl ?_))
    | (first | (apply wpEager_take; (· rfl); (· (intro w' hb'; go_simp; try with_reducible rfl)); (try simp only [Act.put, List.setIfInBounds_toArray, List.set_cons_zero, List.set_cons_succ]); (try refine eagerOpen rfl ?_)) | (refine wpEager_skip (by rfl) ?_; (try simp only [Act.put, List.setIfInBounds_toArray, List.set_cons_zero, List.set_cons_succ]); (try refine eagerOpen rfl ?_)) | (refine wpEager_off (by rfl) ?_; (try simp only [Act.put, List.setIfInBounds_toArray, List.set_cons_zero, List.set_cons_succ]); (try refine eagerOpen rfl ?_))))
  refine eagerEnd ?_
  have HL11 := Lib.hid (HL10.out.next hy4)
  have HR11 := Lib.hid (Below.keepOld hy4 HR10.out)
  have HO11 : Hid (v4.ownsRow v8.heap.size 30 32 (.slice p9 n c9) n (d.txs.flatMap bytesV)) := own_touch HO10.out (Turns.of_below (S := fun _ => False) hy4) (fun _ _ h => h)
  have HZ11 : Hid (y9.heap.size < v4.heap.size) := by show _ < _; have h1 := hy4.size; have h2 := HS10.out; omega
  clear hy0 hy1 hy2 hy3 hy4 keep hB hB2 hB9
  clear v1 v2 v3
  go_wp2_with ((with_reducible refine wpAt 104 ?_); refine wpList_load_row rfl 33 _ rfl w.heap.size rfl 33 M (0, 0) _ HL11.out.r0 Try.underlying33 rfl (infoBlk _ HS.out) ?_)
  refine (copy_any M d _ n c _ (HM.out.below HL11.out.below) (by omega)).mono ?_
  rintro e y12 ⟨p12, c12, rfl, ho12, hb12⟩
  rw [HC.out] at ho12 ⊢
  have HO12 := Lib.hid ho12
  have HN12 : Hid (BlkAt y12 (blkA d.hash d.par p12 n c12) d p12 n c12) := copy_at HM.out.hlen HM.out.plen HM.out.ids.each HC.out ho12
  have HL12 := Lib.hid (HL11.out.next hb12)
  have HZ12 := Lib.hid hb12.size
  have HR12 := Lib.hid (Below.keepOld hb12 HR11.out)
  have HO9c : Hid (y12.ownsRow v8.heap.size 30 32 (.slice p9 n c9) n (d.txs.flatMap bytesV)) := own_touch HO11.out (Turns.of_below (S := fun _ => False) hb12) (fun _ _ h => h)
  obtain ⟨A12, hA12⟩ : ∃ A, A = blkA d.hash d.par p12 n c12 := ⟨_, rfl⟩
  rw [← hA12] at HN12 ⊢
  clear hA12
  have HS12 := Lib.hid HN12.out.size
  have HE12 := Lib.hid HN12.out.one
  have HNB12 := Lib.hid (box_new y12 Z 33)
  have hbb := box_below y12 Z A12 33
  have HL13 := Lib.hid (HL12.out.next hbb)
  have HR13 := Lib.hid (Below.keepOld hbb HR12.out)
  have HR13b := Lib.hid (box_row y12 Z A12 33)
  have HO13 : Hid (((y12.alloc (.cells Z 33)).setRow y12.heap.size A12).ownsRow v8.heap.size 30 32 (.slice p9 n c9) n (bytesV d.txs.flatten)) := by
    rw [flat_bytes]
    exact own_touch (HO9c.out.alloc _) (turns_setRow _ y12.heap.size A12) (fun k hk e => by have := HO9c.out.lt k hk; omega)
  have HO13b : Hid (((y12.alloc (.cells Z 33)).setRow y12.heap.size A12).ownsRow v4.heap.size 30 32 (.slice p12 n c12) n (d.txs.flatMap bytesV)) :=
    own_touch (HO12.out.alloc _) (turns_setRow _ y12.heap.size A12) (fun k hk e => by have := HO12.out.lt k hk; omega)
  have hc64 := (HN9.out.parts HR13.out).2.2
  have HLT : Hid (∀ k, (Value.slice p9 n c9).ownBlock = some k → v8.heap.size ≤ k ∧ k < y9.heap.size) := HO9.out.lt
  have HLT2 : Hid (∀ k, (Value.slice p12 n c12).ownBlock = some k → v4.heap.size ≤ k ∧ k < y12.heap.size) := HO12.out.lt
  clear ho12 hb12 hbb
  go_upto_region 13 with ((with_reducible refine wpStoreAt 10 ?_); refine wpList_store_row rfl 33 _ _ rfl y12.heap.size A12 rfl rfl 33 Z HNB12.out (infoBlk _ HS12.out) (by rw [HZZ.out, HS12.out]) HE12.out ?_)
  generalize (y12.alloc (.cells Z 33)).setRow y12.heap.size A12 = w12 at *
  try simp only [Act.put, List.setIfInBounds_toArray, List.set_cons_zero, List.set_cons_succ]
  go_wp2_with fail
  go_loopw [109] (fun j wr => ∃ (k : Nat) (l : List UInt8), k ≤ n ∧ j = .int .i64 k ∧ l.length = n * 32 ∧ wr.ownsRow v8.heap.size 30 32 (.slice p9 n c9) n (bytesV l) ∧ Turns (fun i => (Value.slice p9 n c9).ownBlock = some i) w12 wr) (fun j _ => n - (intOf j).toNat)
  case atStart => exact ⟨0, d.txs.flatten, by omega, rfl, by have := HO13.out.1; rwa [bytesV_length] at this, HO13.out, Turns.refl _ _⟩
  case round =>
    obtain ⟨k', l, hk', rfl, hll, hown, htu⟩ := hrel
    have HOW := Lib.hid hown
    have HTU := Lib.hid htu
    have HLL := Lib.hid hll
    have hcw := (HN9.out.parts (htu.keep HR13.out (fun h => by have := HLT.out _ h; omega))).2.2
    clear hown htu hll hc64
    by_cases hlt : k' < n
    · have hd : decide ((k' : Int) < (n : Int)) = true := decide_eq_true (by omega)
      obtain ⟨g, cap, hp9, _, hcap1, hcap2⟩ := own_some HOW.out (by intro e; cases e; omega)
      cases hp9
      have hj : k' * 32 < l.length := by rw [HLL.out]; omega
      have hj2 : k' * 32 < n * 32 := by omega
      have hcell : wr.cell? ⟨g, k' * 32, none⟩ = some (.int .u8 ((l[k' * 32]'hj).toNat : Int)) := by
        rw [HOW.out.cellAt _ hj2, bytesV_get _ _ hj]
      have hfz := HOW.out.frozenAt (k' * 32)
      have hwv := u8_add1 (l[k' * 32]'hj)
      have HSTO : Hid ((wr.drew.setCell ⟨g, k' * 32, none⟩ (.int .u8 (((l[k' * 32]'hj) + 1).toNat : Int))).ownsRow v8.heap.size 30 32 (.slice (some ⟨g, 0, none⟩) n c9) n (bytesV (l.set (k' * 32) ((l[k' * 32]'hj) + 1)))) := by
        rw [bytesV_set1]
        exact (HOW.out.drew.stored (k' * 32) _).1
      generalize l[k' * 32]'hj = v at *
      have hcd : wr.drew.cell? ⟨g, k' * 32, none⟩ = some (.int .u8 (v.toNat : Int)) := hcell
      have hfd : wr.drew.frozen? ⟨g, k' * 32, none⟩ = false := hfz
      have hcwd : wr.drew.cell? ⟨y9.heap.size, 64, none⟩ = some (.slice (some ⟨g, 0, none⟩) n c9) := hcw
      have HTD := Lib.hid HTU.out.drew
      have hk0 : (0 : Int) ≤ (k' : Int) := by omega
      have hkn : (k' : Int) < (n : Int) := by omega
      go_wp2_with fail
      refine wp_region_tail 9 (by kernel_rfl) (by kernel_rfl) ?_
      simp only [List.take_succ_cons, List.take_zero, List.drop_succ_cons, List.drop_zero]
      generalize wr.drew = wd at *
      repeat still_step
      refine wpStill_nil ?_
      go_wp2_with fail
      go_roundw
      case rel =>
        rw [show ((v.toNat : Int) + 1) % 256 = ((v + 1).toNat : Int) from hwv]
        exact ⟨k' + 1, _, by omega, by rw [Int.natCast_add]; rfl, by rw [List.length_set]; exact HLL.out, HSTO.out, HTD.out.setCell (p := ⟨g, k' * 32, none⟩) (fun _ => rfl) _⟩
      case measure => simp only [intOf]; omega
    · have hd : decide ((k' : Int) < (n : Int)) = false := decide_eq_false (by omega)
      have hsz : w.heap.size < v8.heap.size := (Array.getElem?_eq_some_iff.1 HL8.out.r0).1
      have HRM := Lib.hid (HTU.out.keep HL13.out.r0 (fun h => by have := (HLT.out _ h).1; omega))
      have HRA := Lib.hid (HTU.out.keep HR13b.out (fun h => by have := (HLT.out _ h).2; have := HZ11.out; have := HZ12.out; omega))
      have HBW := Lib.hid (HL13.out.below.trans (HTU.out.below (HL13.out.below.size) (fun i h => by have := (HLT.out _ h).1; omega)))
      have HNW : Hid (BlkAt wr A12 d p12 n c12) := ⟨HN12.out.arr, HN12.out.hlen, HN12.out.plen, (copy_at HM.out.hlen HM.out.plen HM.out.ids.each HC.out (own_touch HO13b.out HTU.out (fun k hk e => by have := (HLT.out _ e).2; have := (HLT2.out _ hk).1; have := HZ11.out; omega))).ids⟩
      go_wp2_with (first
        | ((with_reducible refine wpAt 122 ?_); refine wpList_load_row rfl 33 _ rfl w.heap.size rfl 33 M (0, 0) _ HRM.out Try.underlying33 rfl (infoBlk _ HS.out) ?_)
        | ((with_reducible refine wpAt 123 ?_); refine wpList_load_row rfl 33 _ rfl y12.heap.size rfl 33 A12 (0, 0) _ HRA.out Try.underlying33 rfl (infoBlk _ HS12.out) ?_))
      refine (rSame_any M A12 d d _ _ _ _ _ _ _ (HM.out.below HBW.out) HNW.out).mono ?_
      rintro e v18 ⟨rfl, hx18⟩
      rw [sameB_self]
      have HB18 := Lib.hid (HBW.out.trans (hx18.mono HBW.out.size))
      clear hx18
      go_wp2_with fail
      refine (alive_any _).mono ?_
      rintro e v19 ⟨rfl, hx19⟩
      have HB19 := Lib.hid (HB18.out.trans (hx19.mono HB18.out.size))
      clear hx19
      go_wp2_with fail
      go_ret
      exact ⟨rfl, HB19.out⟩
end Go.Proofs.Ytepemfgiigceoaa.Blk
