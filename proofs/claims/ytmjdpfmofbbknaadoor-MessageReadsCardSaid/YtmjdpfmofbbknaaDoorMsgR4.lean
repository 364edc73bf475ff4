/- MESSAGES: the reference's Decode of an Upload. -/
import Derived.Test.YtmjdpfmofbbknaaDoorMsgR3
namespace Go.Proofs.YtmjdpfmofbbknaaDoor.Msg
open Go.RowKit Go.Mir Go.Mir.Parts Wr Cod

theorem own_bs {w : World} {base : Nat} {p : Option Addr} {n c : Nat} {B : List UInt8} (h : w.ownsRow base 5 1 (.slice p n c) n (bytesV B)) (hl : n = B.length) : Bs w p B.length c B := by
  subst hl
  obtain ⟨p', c', e, hs⟩ := own_sl h
  cases e
  exact hs
theorem msgA_hset {m : MsgD} (hh : m.hint.length = 16) (p : Option Addr) (c i : Nat) (hi : i < 16) (y : UInt8) (h' : List UInt8) (he : m.hint.set i y = h') : (msgA m p c).setIfInBounds (4 + i) (.int .u8 (y.toNat : Int)) = msgA { m with hint := h' } p c := by
  subst he
  refine msgA_hint hh p c _ (by simp [hh]) (by simp) fun j => ?_
  rw [idA_toList, bytesV_length, List.length_set, hh, Array.getElem?_setIfInBounds]
  have l1 := bytesV_length m.hint
  by_cases hj : 4 ≤ j ∧ j < 4 + 16
  · rw [if_pos hj, bytesV, List.getElem?_map, List.getElem?_set]
    by_cases h1 : 4 + i = j
    · subst h1
      rw [if_pos rfl, if_pos (by rw [msgA_size hh]; omega), if_pos (by omega), if_pos (by omega)]
      rfl
    · rw [if_neg h1, if_neg (by omega)]
      unfold msgA msgL
      rw [List.getElem?_toArray, List.getElem?_append_right (by simp; omega), List.getElem?_append_left (by simp [l1, hh]; omega), bytesV, List.getElem?_map]
      rfl
  · rw [if_neg hj, if_neg (by omega)]
def hfill (l : List UInt8) (j : Nat) : List UInt8 := (l.drop 9).take j ++ List.replicate (16 - j) 0
theorem hfill_len (l : List UInt8) (j : Nat) (hl : 27 ≤ l.length) (hj : j ≤ 16) : (hfill l j).length = 16 := by
  unfold hfill
  rw [List.length_append, List.length_take, List.length_drop, List.length_replicate]
  omega
theorem hfill_zero (l : List UInt8) : hfill l 0 = z16 := by
  unfold hfill
  rfl
theorem hfill_full (l : List UInt8) : hfill l 16 = (l.drop 9).take 16 := by
  unfold hfill
  simp
theorem hfill_set (l : List UInt8) (j : Nat) (hl : 27 ≤ l.length) (hj : j < 16) (y : UInt8) (hy : l[9 + j]'(by omega) = y) : (hfill l j).set j y = hfill l (j + 1) := by
  subst hy
  unfold hfill
  have h1 : ((l.drop 9).take j).length = j := by rw [List.length_take, List.length_drop]; omega
  rw [List.set_append_right _ _ (by omega), h1, Nat.sub_self, show 16 - j = (16 - (j + 1)) + 1 by omega, List.replicate_succ, List.set_cons_zero, List.take_add_one, List.append_assoc]
  congr 1
  rw [List.getElem?_drop, List.getElem?_eq_getElem (by omega)]
  rfl
set_option maxRecDepth 100000 in
set_option maxHeartbeats 6400000 in
theorem rdecode_up (p0 : Option Addr) (n0 c0 : Nat) (l : List UInt8) (w : World) (hB : Bs w p0 n0 c0 l) (hn : n0 ≤ 1099511627776) (k : UInt8) (tl : List UInt8) (hl : l = k :: tl) (hk2 : k.toNat = 2) :
    Calls Tryd.prog 13 #[.slice p0 n0 c0] w (RDecP l w) := by
  have hz := zeroM
  have HB := Lib.hid hB
  have hle := hB.le
  have hmax := hB.max
  have HN := Lib.hid hB.length
  clear hB
  have HERR : Hid (∀ e, decM l = (MsgD.zero, e) → ∀ w', Below w.heap.size w w' → RDecP l w (.returned (.tuple #[.agg (msgA MsgD.zero none 0), .int .i64 e])) w') := fun e he w' hb => by
    unfold RDecP
    rw [he]
    exact ⟨none, 0, rfl, ⟨zero_wf, Sl.nil _ _⟩, hb⟩
  have HOKW : Hid (∀ m, decM l = (m, 0) → ∀ p c w', Bs w' p m.blob.length c m.blob → Below w.heap.size w w' → RDecP l w (.returned (.tuple #[.agg (msgA m p c), .int .i64 0])) w') := fun m he p c w' hb hb2 => by
    have hw := dec_wf l
    rw [he] at hw
    unfold RDecP
    rw [he]
    exact ⟨p, c, rfl, ⟨hw, hb⟩, hb2⟩
  have hz0 : ¬ n0 = 0 := by
    have := HN.out
    rw [hl] at this
    simp at this
    omega
  have hd : decide ((n0 : Int) < (1 : Int)) = false := decide_eq_false (by omega)
  have hdc := dec_cons k tl l hl
  have HK0 : Hid (l[0]'(by rw [HN.out]; omega) = k) := by show _ = _; simp [hl]
  clear hl
  have HKV : Hid ((k.toNat : Int) = 2) := by show _ = _; omega
  rw [if_neg (by omega), if_pos hk2, HN.out] at hdc
  clear hk2
  by_cases hs : n0 < 27
  · have e3 : decide ((n0 : Int) < 27) = true := decide_eq_true (by omega)
    have HF := Lib.hid (HERR.out 2 (by rw [hdc, if_pos hs]))
    clear hdc hs
    go_enter Tryd.func13, Tryd.ntmps13
    go_upto_region 1 with fail
    have hq0 : (w.alloc (.cells (msgA MsgD.zero none 0) 28)).heap[w.heap.size]? = some (.cells (msgA MsgD.zero none 0) 28 (0, 0)) ∧ (w.alloc (.cells (msgA MsgD.zero none 0) 28)).heap.size = w.heap.size + 1 ∧ Below w.heap.size w (w.alloc (.cells (msgA MsgD.zero none 0) 28)) := ⟨heap_alloc_last _ _, by simp, Below.allocs _ _⟩
    generalize w.alloc (.cells (msgA MsgD.zero none 0) 28) = w1 at *
    have HQ0 := Lib.hid hq0
    clear hq0
    go_upto_region 2 with (first
      | refine Rdr.wpList_build rfl 28 _ rfl [] rfl _ built_m0 ?_
      | refine wpList_store_row rfl 28 _ _ rfl w1.heap.size (msgA MsgD.zero none 0) rfl rfl 28 (msgA MsgD.zero none 0) (heap_alloc_last _ _) (sizeM _ rfl) rfl (msgA_one _ _ _) ?_)
    try simp only [Act.put, List.setIfInBounds_toArray, List.set_cons_zero, List.set_cons_succ]
    have hq1 : ((w1.alloc (.cells (msgA MsgD.zero none 0) 28)).setRow w1.heap.size (msgA MsgD.zero none 0)).heap[w1.heap.size]? = some (.cells (msgA MsgD.zero none 0) 28 (0, 0)) ∧ Below w1.heap.size w1 ((w1.alloc (.cells (msgA MsgD.zero none 0) 28)).setRow w1.heap.size (msgA MsgD.zero none 0)) ∧ ((w1.alloc (.cells (msgA MsgD.zero none 0) 28)).setRow w1.heap.size (msgA MsgD.zero none 0)).heap.size = w.heap.size + 2 := ⟨setRow_heap _ _ _ _ _ _ (heap_alloc_last _ _), below_setRow (Below.allocs _ _) (Nat.le_refl _) _, by have := HQ0.out.2.1; simp [World.setRow]; omega⟩
    generalize (w1.alloc (.cells (msgA MsgD.zero none 0) 28)).setRow w1.heap.size (msgA MsgD.zero none 0) = w2 at *
    have hs1 := HQ0.out.2.1
    rw [hs1] at hq1 ⊢
    have HQ1 : Hid (w2.heap[w.heap.size]? = some (.cells (msgA MsgD.zero none 0) 28 (0, 0)) ∧ w2.heap[w.heap.size + 1]? = some (.cells (msgA MsgD.zero none 0) 28 (0, 0)) ∧ w2.heap.size = w.heap.size + 2 ∧ Below w.heap.size w w2) := ⟨Below.keepBlock hq1.2.1 HQ0.out.1 (by omega), hq1.1, hq1.2.2, HQ0.out.2.2.trans (hq1.2.1.mono (by omega))⟩
    clear hs1 hq1 HQ0
    obtain ⟨b', o', hpb⟩ := HB.out.addr (by omega) (by omega)
    have hc' := Bs.byte (hpb ▸ (HB.out.below HQ1.out.2.2.2)) (j := 0) (by rw [HN.out]; omega)
    rw [HK0.out, Nat.add_zero] at hc'
    try rw [HKV.out] at hc'
    obtain rfl := hpb
    go_upto_region 5 with (first
      | refine Rdr.wpList_build rfl 28 _ rfl [(0, .int .i64 2)] rfl _ (built_m _) ?_
      | refine wpList_store_row rfl 28 _ _ rfl w2.heap.size (msgA ⟨2, 0, 0, 0, z16, []⟩ none 0) rfl rfl 28 (msgA MsgD.zero none 0) (heap_alloc_last _ _) (sizeM _ rfl) rfl (msgA_one _ _ _) ?_)
    try simp only [Act.put, List.setIfInBounds_toArray, List.set_cons_zero, List.set_cons_succ]
    have hq5 : ((w2.alloc (.cells (msgA MsgD.zero none 0) 28)).setRow w2.heap.size (msgA ⟨2, 0, 0, 0, z16, []⟩ none 0)).heap[w2.heap.size]? = some (.cells (msgA ⟨2, 0, 0, 0, z16, []⟩ none 0) 28 (0, 0)) ∧ Below w2.heap.size w2 ((w2.alloc (.cells (msgA MsgD.zero none 0) 28)).setRow w2.heap.size (msgA ⟨2, 0, 0, 0, z16, []⟩ none 0)) ∧ ((w2.alloc (.cells (msgA MsgD.zero none 0) 28)).setRow w2.heap.size (msgA ⟨2, 0, 0, 0, z16, []⟩ none 0)).heap.size = w.heap.size + 3 := ⟨setRow_heap _ _ _ _ _ _ (heap_alloc_last _ _), below_setRow (Below.allocs _ _) (Nat.le_refl _) _, by have := HQ1.out.2.2.1; simp [World.setRow]; omega⟩
    generalize (w2.alloc (.cells (msgA MsgD.zero none 0) 28)).setRow w2.heap.size (msgA ⟨2, 0, 0, 0, z16, []⟩ none 0) = w5 at *
    have HQ5 := Lib.hid hq5
    have hs2 := HQ1.out.2.2.1
    clear hq5 hc'
    rw [hs2]
    clear hs2
    go_upto_region 6 with fail
    have HQW : Hid (QW w ⟨2, 0, 0, 0, z16, []⟩ none 0 (w5.alloc (.cells #[.int .i64 0, .int .i64 3, .int .i64 27, .int .i64 5, .int .i64 5] 3))) := by
      have h5 := HQ5.out
      have h1 := HQ1.out
      have hal := Below.allocs w5 (.cells #[.int .i64 0, .int .i64 3, .int .i64 27, .int .i64 5, .int .i64 5] 3)
      have hlast := heap_alloc_last w5 (.cells #[.int .i64 0, .int .i64 3, .int .i64 27, .int .i64 5, .int .i64 5] 3)
      rw [h5.2.2] at hlast
      have hm := h5.1
      rw [h1.2.2.1] at hm
      exact ⟨Below.keepOld hal (Below.keepOld h5.2.1 h1.1), Below.keepOld hal (Below.keepOld h5.2.1 h1.2.1), Below.keepOld hal hm, hlast, (h1.2.2.2.trans (h5.2.1.mono h1.2.2.2.size)).trans (hal.mono (by omega)), rfl⟩
    have hs5 := HQ5.out.2.2
    generalize w5.alloc (.cells #[.int .i64 0, .int .i64 3, .int .i64 27, .int .i64 5, .int .i64 5] 3) = w6 at *
    rw [hs5]
    clear hs5 HQ5 HQ1
    obtain ⟨k0, k1, k2, k3, k20, kf, s1, s2, s3, s4⟩ := HQW.out.cells
    go_wp2_with (first
      | refine wpList_load_row rfl 28 _ rfl (w.heap.size + 1) rfl 28 (msgA MsgD.zero none 0) (0, 0) _ (HQW.out.r1) Tryd.underlying28 rfl (sizeM _ rfl) ?_
      | refine wpList_store_row rfl 28 _ _ rfl w.heap.size (msgA MsgD.zero none 0) rfl rfl 28 (msgA MsgD.zero none 0) (HQW.out.r0) (sizeM _ rfl) rfl (msgA_one _ _ _) ?_)
    have HS := Lib.hid (setRow_heap _ _ _ (msgA MsgD.zero none 0) _ _ (HQW.out.r0))
    refine bodyPost_ret (results_cell_tmp2 rfl _ _ _ _ _ _ _ rfl HS.out Tryd.underlying28 rfl (sizeM _ rfl)) rfl ?_
    exact HF.out _ (below_setRow (HQW.out.low) (Nat.le_refl _) _)
  have e3 : decide ((n0 : Int) < 27) = false := decide_eq_false (by omega)
  rw [if_neg hs] at hdc
  have HDC := Lib.hid hdc
  clear hdc
  go_enter Tryd.func13, Tryd.ntmps13
  go_upto_region 1 with fail
  have hq0 : (w.alloc (.cells (msgA MsgD.zero none 0) 28)).heap[w.heap.size]? = some (.cells (msgA MsgD.zero none 0) 28 (0, 0)) ∧ (w.alloc (.cells (msgA MsgD.zero none 0) 28)).heap.size = w.heap.size + 1 ∧ Below w.heap.size w (w.alloc (.cells (msgA MsgD.zero none 0) 28)) := ⟨heap_alloc_last _ _, by simp, Below.allocs _ _⟩
  generalize w.alloc (.cells (msgA MsgD.zero none 0) 28) = w1 at *
  have HQ0 := Lib.hid hq0
  clear hq0
  go_upto_region 2 with (first
    | refine Rdr.wpList_build rfl 28 _ rfl [] rfl _ built_m0 ?_
    | refine wpList_store_row rfl 28 _ _ rfl w1.heap.size (msgA MsgD.zero none 0) rfl rfl 28 (msgA MsgD.zero none 0) (heap_alloc_last _ _) (sizeM _ rfl) rfl (msgA_one _ _ _) ?_)
  try simp only [Act.put, List.setIfInBounds_toArray, List.set_cons_zero, List.set_cons_succ]
  have hq1 : ((w1.alloc (.cells (msgA MsgD.zero none 0) 28)).setRow w1.heap.size (msgA MsgD.zero none 0)).heap[w1.heap.size]? = some (.cells (msgA MsgD.zero none 0) 28 (0, 0)) ∧ Below w1.heap.size w1 ((w1.alloc (.cells (msgA MsgD.zero none 0) 28)).setRow w1.heap.size (msgA MsgD.zero none 0)) ∧ ((w1.alloc (.cells (msgA MsgD.zero none 0) 28)).setRow w1.heap.size (msgA MsgD.zero none 0)).heap.size = w.heap.size + 2 := ⟨setRow_heap _ _ _ _ _ _ (heap_alloc_last _ _), below_setRow (Below.allocs _ _) (Nat.le_refl _) _, by have := HQ0.out.2.1; simp [World.setRow]; omega⟩
  generalize (w1.alloc (.cells (msgA MsgD.zero none 0) 28)).setRow w1.heap.size (msgA MsgD.zero none 0) = w2 at *
  have hs1 := HQ0.out.2.1
  rw [hs1] at hq1 ⊢
  have HQ1 : Hid (w2.heap[w.heap.size]? = some (.cells (msgA MsgD.zero none 0) 28 (0, 0)) ∧ w2.heap[w.heap.size + 1]? = some (.cells (msgA MsgD.zero none 0) 28 (0, 0)) ∧ w2.heap.size = w.heap.size + 2 ∧ Below w.heap.size w w2) := ⟨Below.keepBlock hq1.2.1 HQ0.out.1 (by omega), hq1.1, hq1.2.2, HQ0.out.2.2.trans (hq1.2.1.mono (by omega))⟩
  clear hs1 hq1 HQ0
  obtain ⟨b', o', hpb⟩ := HB.out.addr (by omega) (by omega)
  have hc' := Bs.byte (hpb ▸ (HB.out.below HQ1.out.2.2.2)) (j := 0) (by rw [HN.out]; omega)
  rw [HK0.out, Nat.add_zero] at hc'
  try rw [HKV.out] at hc'
  obtain rfl := hpb
  go_upto_region 5 with (first
    | refine Rdr.wpList_build rfl 28 _ rfl [(0, .int .i64 2)] rfl _ (built_m _) ?_
    | refine wpList_store_row rfl 28 _ _ rfl w2.heap.size (msgA ⟨2, 0, 0, 0, z16, []⟩ none 0) rfl rfl 28 (msgA MsgD.zero none 0) (heap_alloc_last _ _) (sizeM _ rfl) rfl (msgA_one _ _ _) ?_)
  try simp only [Act.put, List.setIfInBounds_toArray, List.set_cons_zero, List.set_cons_succ]
  have hq5 : ((w2.alloc (.cells (msgA MsgD.zero none 0) 28)).setRow w2.heap.size (msgA ⟨2, 0, 0, 0, z16, []⟩ none 0)).heap[w2.heap.size]? = some (.cells (msgA ⟨2, 0, 0, 0, z16, []⟩ none 0) 28 (0, 0)) ∧ Below w2.heap.size w2 ((w2.alloc (.cells (msgA MsgD.zero none 0) 28)).setRow w2.heap.size (msgA ⟨2, 0, 0, 0, z16, []⟩ none 0)) ∧ ((w2.alloc (.cells (msgA MsgD.zero none 0) 28)).setRow w2.heap.size (msgA ⟨2, 0, 0, 0, z16, []⟩ none 0)).heap.size = w.heap.size + 3 := ⟨setRow_heap _ _ _ _ _ _ (heap_alloc_last _ _), below_setRow (Below.allocs _ _) (Nat.le_refl _) _, by have := HQ1.out.2.2.1; simp [World.setRow]; omega⟩
  generalize (w2.alloc (.cells (msgA MsgD.zero none 0) 28)).setRow w2.heap.size (msgA ⟨2, 0, 0, 0, z16, []⟩ none 0) = w5 at *
  have HQ5 := Lib.hid hq5
  have hs2 := HQ1.out.2.2.1
  clear hq5 hc'
  rw [hs2]
  clear hs2
  go_upto_region 6 with fail
  have HQW : Hid (QW w ⟨2, 0, 0, 0, z16, []⟩ none 0 (w5.alloc (.cells #[.int .i64 0, .int .i64 3, .int .i64 27, .int .i64 5, .int .i64 5] 3))) := by
    have h5 := HQ5.out
    have h1 := HQ1.out
    have hal := Below.allocs w5 (.cells #[.int .i64 0, .int .i64 3, .int .i64 27, .int .i64 5, .int .i64 5] 3)
    have hlast := heap_alloc_last w5 (.cells #[.int .i64 0, .int .i64 3, .int .i64 27, .int .i64 5, .int .i64 5] 3)
    rw [h5.2.2] at hlast
    have hm := h5.1
    rw [h1.2.2.1] at hm
    exact ⟨Below.keepOld hal (Below.keepOld h5.2.1 h1.1), Below.keepOld hal (Below.keepOld h5.2.1 h1.2.1), Below.keepOld hal hm, hlast, (h1.2.2.2.trans (h5.2.1.mono h1.2.2.2.size)).trans (hal.mono (by omega)), rfl⟩
  have hs5 := HQ5.out.2.2
  generalize w5.alloc (.cells #[.int .i64 0, .int .i64 3, .int .i64 27, .int .i64 5, .int .i64 5] 3) = w6 at *
  rw [hs5]
  clear hs5 HQ5 HQ1
  obtain ⟨k0, k1, k2, k3, k20, kf, s1, s2, s3, s4⟩ := HQW.out.cells
  obtain ⟨q9, hrun, hqb⟩ := cut3 l HB.out 1 4 1 5 (by omega) (by omega) (by omega)
  have HQB := Lib.hid hqb
  clear hqb
  go_wp2_with fail
  refine (value_any _ _ _ _ _ (HQB.out _ HQW.out.low) (by omega)).mono ?_
  rintro e w' ⟨rfl, rfl⟩
  clear hrun HQB
  generalize Rdr.beN ((l.drop 1).take 4) = n1 at *
  have hqw := HQW.out.set 1 (.int .u32 (n1 : Int)) (set1 _ _ _ _) rfl
  have kfc := kf 1
  clear kf
  go_upto_region 14 with fail
  clear kfc HQW k0 k1 k2 k3 k20 s1 s2 s3 s4
  generalize w6.setCell ⟨w.heap.size + 2, 1, none⟩ (.int .u32 (n1 : Int)) = w7 at *
  have HQW := Lib.hid hqw
  clear hqw
  obtain ⟨k0, k1, k2, k3, k20, kf, s1, s2, s3, s4⟩ := HQW.out.cells
  obtain ⟨q9, hrun, hqb⟩ := cut3 l HB.out 5 4 5 9 (by omega) (by omega) (by omega)
  have HQB := Lib.hid hqb
  clear hqb
  go_wp2_with fail
  refine (value_any _ _ _ _ _ (HQB.out _ HQW.out.low) (by omega)).mono ?_
  rintro e w' ⟨rfl, rfl⟩
  clear hrun HQB
  generalize Rdr.beN ((l.drop 5).take 4) = n2 at *
  have hqw := HQW.out.set 2 (.int .u32 (n2 : Int)) (set2 _ _ _ _) rfl
  have kfc := kf 2
  clear kf
  go_upto_region 16 with fail
  clear kfc HQW k0 k1 k2 k3 k20 s1 s2 s3 s4
  generalize w7.setCell ⟨w.heap.size + 2, 2, none⟩ (.int .u32 (n2 : Int)) = w8 at *
  have HQW : Hid (QW w ⟨2, n1, n2, 0, hfill l 0, []⟩ none 0 w8) := Lib.hid hqw
  clear hqw
  go_wp2_with fail
  go_loopw [8] (fun vj wr => ∃ j : Nat, j ≤ 16 ∧ vj = .int .i64 j ∧ QW w ⟨2, n1, n2, 0, hfill l j, []⟩ none 0 wr) (fun vj _ => 16 - (intOf vj).toNat)
  case atStart => exact ⟨0, by omega, rfl, HQW.out⟩
  case round =>
    clear HQW
    obtain ⟨j, hj, rfl, hqw⟩ := hrel
    have HQW := Lib.hid hqw
    clear hqw
    by_cases hlj : j < 16
    · have hdj : decide ((j : Int) < (16 : Int)) = true := decide_eq_true (by omega)
      have hdj2 : decide (j < 16) = true := decide_eq_true hlj
      have hin : 9 + j < l.length := by rw [HN.out]; omega
      have hc' := Bs.byte (HB.out.below HQW.out.low) hin
      obtain ⟨y, hy⟩ : ∃ y, l[9 + j]'hin = y := ⟨_, rfl⟩
      have hqw := HQW.out.set (4 + j) (.int .u8 (y.toNat : Int)) (msgA_hset HQW.out.hint none 0 j hlj y _ (hfill_set l j (by rw [HN.out]; omega) hlj y hy)) (hfill_len l (j + 1) (by rw [HN.out]; omega) (by omega))
      have HQ2 := Lib.hid hqw
      rw [hy] at hc'
      have hlenc := HQW.out.hint
      have hcx : ∃ yo, wr.cell? ⟨w.heap.size + 2, 4 + j, none⟩ = some yo := by
        rw [cell_of_row _ _ _ _ _ _ HQW.out.r2, Array.getElem?_eq_getElem (by rw [msgA_size hlenc]; omega)]
        exact ⟨_, rfl⟩
      obtain ⟨yo, hcx⟩ := hcx
      have hfx : wr.frozen? ⟨w.heap.size + 2, 4 + j, none⟩ = false := frozen_of_row _ _ _ _ _ HQW.out.r2
      have hwx : IntKind.i64.wrap ((9 : Int) + (j : Int)) = ((9 + j : Nat) : Int) := by
        rw [IntWalk.i64_in _ (by omega)]
        omega
      have hinn : 9 + j < n0 := by omega
      obtain ⟨ix, hix⟩ : ∃ ix, 9 + j = ix := ⟨_, rfl⟩
      rw [hix] at hc' hwx hinn
      clear hin hy hqw hlenc hix
      go_wp2_with fail
      go_roundw
      case rel => exact ⟨j + 1, by omega, by go_num, HQ2.out⟩
      case measure => simp [intOf]; omega
    · obtain rfl : j = 16 := by omega
      rw [hfill_full] at HQW
      have hmb : Rdr.beN ((l.drop 25).take 2) < 65536 := by
        have h1 := Rdr.beN_lt_pow ((l.drop 25).take 2)
        have h2 : 256 ^ ((l.drop 25).take 2).length ≤ 256 ^ 2 := Nat.pow_le_pow_right (by omega) (by rw [List.length_take]; omega)
        omega
      obtain ⟨k0, k1, k2, k3, k20, kf, s1, s2, s3, s4⟩ := HQW.out.cells
      skip
      obtain ⟨q9, hrun, hqb⟩ := cut3 l HB.out 25 2 25 27 (by omega) (by omega) (by omega)
      have HQB := Lib.hid hqb
      clear hqb
      go_wp2_with fail
      refine (value_any _ _ _ _ _ (HQB.out _ HQW.out.low) (by omega)).mono ?_
      rintro e w' ⟨rfl, rfl⟩
      clear hrun HQB
      generalize Rdr.beN ((l.drop 25).take 2) = many at *
      have hmw : IntKind.i64.wrap (many : Int) = (many : Int) := IntWalk.i64_in _ (by omega)
      have hmw2 : IntKind.i64.wrap (27 + (many : Int)) = ((27 + many : Nat) : Int) := by rw [IntWalk.i64_in _ (by omega)]; omega
      have hdc := HDC.out
      clear HDC
      by_cases h10 : 1000 < many
      · have e5 : decide ((1000 : Int) < (many : Int)) = true := decide_eq_true (by omega)
        have HF := Lib.hid (HERR.out 4 (by rw [hdc, if_pos h10]))
        clear hdc h10
        skip
        go_wp2_with (first
          | refine wpList_load_row rfl 28 _ rfl (w.heap.size + 1) rfl 28 (msgA MsgD.zero none 0) (0, 0) _ (HQW.out.r1) Tryd.underlying28 rfl (sizeM _ rfl) ?_
          | refine wpList_store_row rfl 28 _ _ rfl w.heap.size (msgA MsgD.zero none 0) rfl rfl 28 (msgA MsgD.zero none 0) (HQW.out.r0) (sizeM _ rfl) rfl (msgA_one _ _ _) ?_)
        have HS := Lib.hid (setRow_heap _ _ _ (msgA MsgD.zero none 0) _ _ (HQW.out.r0))
        refine bodyPost_ret (results_cell_tmp2 rfl _ _ _ _ _ _ _ rfl HS.out Tryd.underlying28 rfl (sizeM _ rfl)) rfl ?_
        exact HF.out _ (below_setRow (HQW.out.low) (Nat.le_refl _) _)
      have e5 : decide ((1000 : Int) < (many : Int)) = false := decide_eq_false (by omega)
      rw [if_neg h10] at hdc
      by_cases h11 : n0 < 27 + many
      · have h11' := h11
        have e6 : decide ((n0 : Int) < ((27 + many : Nat) : Int)) = true := decide_eq_true (by omega)
        have HF := Lib.hid (HERR.out 2 (by rw [hdc, if_pos h11]))
        clear hdc h11
        obtain ⟨M27, hM27⟩ : ∃ M27, 27 + many = M27 := ⟨_, rfl⟩
        have e6b : decide (n0 < 27 + many) = true := decide_eq_true h11'
        rw [hM27] at hmw2 e6 e6b
        clear hM27 h11'
        skip
        go_wp2_with (first
          | refine wpList_load_row rfl 28 _ rfl (w.heap.size + 1) rfl 28 (msgA MsgD.zero none 0) (0, 0) _ (HQW.out.r1) Tryd.underlying28 rfl (sizeM _ rfl) ?_
          | refine wpList_store_row rfl 28 _ _ rfl w.heap.size (msgA MsgD.zero none 0) rfl rfl 28 (msgA MsgD.zero none 0) (HQW.out.r0) (sizeM _ rfl) rfl (msgA_one _ _ _) ?_)
        have HS := Lib.hid (setRow_heap _ _ _ (msgA MsgD.zero none 0) _ _ (HQW.out.r0))
        refine bodyPost_ret (results_cell_tmp2 rfl _ _ _ _ _ _ _ rfl HS.out Tryd.underlying28 rfl (sizeM _ rfl)) rfl ?_
        exact HF.out _ (below_setRow (HQW.out.low) (Nat.le_refl _) _)
      have e6 : decide ((n0 : Int) < ((27 + many : Nat) : Int)) = false := decide_eq_false (by omega)
      rw [if_neg h11] at hdc
      obtain ⟨M27, hM27⟩ : ∃ M27, 27 + many = M27 := ⟨_, rfl⟩
      have HDC := Lib.hid hdc
      have HM27 := Lib.hid hM27
      obtain ⟨qb, hrun, hqb⟩ := cut3 l HB.out 27 many 27 (M27 : Int) (by omega) (by omega) (by omega)
      have HQB := Lib.hid hqb
      have e6b : decide (n0 < 27 + many) = false := decide_eq_false h11
      rw [hM27] at hmw2 e6 e6b
      have hMn : M27 ≤ n0 := by omega
      have hm1000 : many ≤ 1000 := by omega
      clear hM27 hqb hdc h11 h10
      have HBX : Hid (Below wr.heap.size wr (wr.alloc (.cells #[] 5))) := Below.allocs _ _
      have HO : Hid ((wr.alloc (.cells #[] 5)).ownsRow wr.heap.size 5 1 (.slice (some ⟨wr.heap.size, 0, none⟩) 0 0) 0 []) := ⟨rfl, .inr ⟨wr.heap.size, 0, _, rfl, Nat.le_refl _, heap_alloc_last _ _, Nat.le_refl _, by simp [maxLen], rfl, rfl⟩⟩
      obtain ⟨B, hBe⟩ : ∃ B, (l.drop 27).take many = B := ⟨_, rfl⟩
      have HBL : Hid (B.length = many) := by
        show _ = _
        rw [← hBe, List.length_take, List.length_drop, HN.out]
        have := HM27.out
        omega
      have hsx := HQB.out _ (HQW.out.low.trans (HBX.out.mono HQW.out.low.size))
      have hdc9 := HDC.out
      rw [hBe] at hsx hdc9
      have HSX := Lib.hid hsx
      clear HDC HQB
      have HDC := Lib.hid hdc9
      clear hsx hdc9 hBe
      go_upto_region 25 with fail
      have hlx := HSX.out.le
      have hmx := HSX.out.max
      go_upto_region 27 with (at_builtin; refine wpList_append_nx rfl _ _ 26 rfl (base := wr.heap.size) Tryd.underlying26 info8b rfl (by omega) rfl HO.out rfl HSX.out (bytesV_one _) ⟨by omega, by omega⟩ HBX.out.size ?_)
      intro p9 c9 x9 ho9 hg9 _ _
      have hb9 := HBX.out.grown hg9 HBX.out.size (fun k hk => (HO.out.lt k hk).1)
      have HLT : Hid (w.heap.size + 2 < wr.heap.size) := (Array.getElem?_eq_some_iff.1 HQW.out.r2).1
      have HLO : Hid (w.heap.size ≤ wr.heap.size) := HQW.out.low.size
      have hqw9 := HQW.out.below hb9
      clear HO HSX HBX hg9 hlx hmx HQW hb9 k0 k1 k2 k3 k20 kf s1 s2 s3 s4 hrun
      obtain ⟨k0, k1, k2, k3, k20, kf, s1, s2, s3, s4⟩ := hqw9.cells
      have hqw := hqw9.set 20 (.slice p9 many c9) (msgA_setS _ hqw9.hint _ _ _ B p9 c9 (by rw [HBL.out])) hqw9.hint
      have how := own_touch ho9 ((Turns.refl (fun k => k = w.heap.size + 2) x9).setCell (p := ⟨w.heap.size + 2, 20, none⟩) (fun _ => rfl) (.slice p9 many c9)) (fun k hk e => by have := (ho9.lt k hk).1; have := HLT.out; omega)
      have HQW := Lib.hid hqw
      have HOW := Lib.hid how
      have kfc := kf 20
      clear hqw how ho9 hqw9 kf
      go_upto_region 27 with fail
      clear kfc k0 k1 k2 k3 k20 s1 s2 s3 s4
      generalize x9.setCell ⟨w.heap.size + 2, 20, none⟩ (.slice p9 many c9) = x10 at *
      have hdc := HDC.out
      have hm27 := HM27.out
      by_cases hg : M27 < n0
      · have e7 : decide ((M27 : Int) < (n0 : Int)) = true := decide_eq_true (by omega)
        have e7b : decide (M27 < n0) = true := decide_eq_true hg
        have HF := Lib.hid (HERR.out 3 (by rw [hdc, if_pos (by omega)]))
        clear hdc hg hm27
        skip
        go_wp2_with (first
          | refine wpList_load_row rfl 28 _ rfl (w.heap.size + 1) rfl 28 (msgA MsgD.zero none 0) (0, 0) _ (HQW.out.r1) Tryd.underlying28 rfl (sizeM _ rfl) ?_
          | refine wpList_store_row rfl 28 _ _ rfl w.heap.size (msgA MsgD.zero none 0) rfl rfl 28 (msgA MsgD.zero none 0) (HQW.out.r0) (sizeM _ rfl) rfl (msgA_one _ _ _) ?_)
        have HS := Lib.hid (setRow_heap _ _ _ (msgA MsgD.zero none 0) _ _ (HQW.out.r0))
        refine bodyPost_ret (results_cell_tmp2 rfl _ _ _ _ _ _ _ rfl HS.out Tryd.underlying28 rfl (sizeM _ rfl)) rfl ?_
        exact HF.out _ (below_setRow (HQW.out.low) (Nat.le_refl _) _)
      have e7 : decide ((M27 : Int) < (n0 : Int)) = false := decide_eq_false (by omega)
      have e7b : decide (M27 < n0) = false := decide_eq_false hg
      rw [if_neg (by omega)] at hdc
      have HFO := Lib.hid (HOKW.out _ hdc)
      clear hdc hg hm27
      skip
      go_wp2_with (first
        | refine wpList_load_row rfl 28 _ rfl (w.heap.size + 2) rfl 28 (msgA ⟨2, n1, n2, 0, (l.drop 9).take 16, B⟩ p9 c9) (0, 0) _ HQW.out.r2 Tryd.underlying28 rfl (sizeM _ (msgA_size HQW.out.hint _ _)) ?_
        | refine wpList_store_row rfl 28 _ _ rfl w.heap.size (msgA ⟨2, n1, n2, 0, (l.drop 9).take 16, B⟩ p9 c9) rfl rfl 28 (msgA MsgD.zero none 0) HQW.out.r0 (sizeM _ (msgA_size HQW.out.hint _ _)) (by rw [msgA_size HQW.out.hint]; rfl) (msgA_one _ _ _) ?_)
      have HS := Lib.hid (setRow_heap _ _ _ (msgA ⟨2, n1, n2, 0, (l.drop 9).take 16, B⟩ p9 c9) _ _ HQW.out.r0)
      refine bodyPost_ret (results_cell_tmp2 rfl _ _ _ _ _ _ _ rfl HS.out Tryd.underlying28 rfl (sizeM _ (msgA_size HQW.out.hint _ _))) rfl ?_
      exact HFO.out _ _ _ (own_bs (own_touch HOW.out (turns_setRow _ w.heap.size _) (fun k hk e => by have := (HOW.out.lt k hk).1; have := HLO.out; have := HLT.out; omega)) HBL.out.symm) (below_setRow HQW.out.low (Nat.le_refl _) _)
end Go.Proofs.YtmjdpfmofbbknaaDoor.Msg
