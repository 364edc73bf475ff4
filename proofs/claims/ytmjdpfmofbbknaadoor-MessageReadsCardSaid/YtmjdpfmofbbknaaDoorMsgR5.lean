/- MESSAGES: the reference's Decode . -/
import Derived.Test.YtmjdpfmofbbknaaDoorMsgR4
namespace Go.Proofs.YtmjdpfmofbbknaaDoor.Msg
open Go.RowKit Go.Mir Go.Mir.Parts Wr Cod

set_option maxRecDepth 100000 in
set_option maxHeartbeats 6400000 in
theorem rdecode_any (p0 : Option Addr) (n0 c0 : Nat) (l : List UInt8) (w : World) (hB : Bs w p0 n0 c0 l) (hn : n0 ≤ 1099511627776) :
    Calls Tryd.prog 13 #[.slice p0 n0 c0] w (RDecP l w) := by
  have hz := zeroM
  have HB := Lib.hid hB
  have hle := hB.le
  have hmax := hB.max
  have HN := Lib.hid hB.length
  clear hB
  have HERR : Hid (∀ e, decM l = (MsgD.zero, e) → ∀ w', Below w.heap.size w w' → RDecP l w (.returned (.tuple #[.agg (msgA MsgD.zero none 0), .int .i64 e])) w') := fun e he w' hb => by
    unfold RDecP
    rw [he]
    exact ⟨none, 0, rfl, ⟨zero_wf, Sl.nil _ _⟩, hb⟩
  by_cases hz0 : n0 = 0
  · have hd : decide ((n0 : Int) < (1 : Int)) = true := decide_eq_true (by omega)
    have hl : l = [] := List.length_eq_zero_iff.1 (by rw [HN.out]; exact hz0)
    have HF := Lib.hid (HERR.out 2 (by rw [hl]; rfl))
    clear hz0 hl
    go_enter Tryd.func13, Tryd.ntmps13
    go_upto_region 1 with fail
    have hq0 : (w.alloc (.cells (msgA MsgD.zero none 0) 28)).heap[w.heap.size]? = some (.cells (msgA MsgD.zero none 0) 28 (0, 0)) ∧ (w.alloc (.cells (msgA MsgD.zero none 0) 28)).heap.size = w.heap.size + 1 ∧ Below w.heap.size w (w.alloc (.cells (msgA MsgD.zero none 0) 28)) := ⟨heap_alloc_last _ _, by simp, Below.allocs _ _⟩
    generalize w.alloc (.cells (msgA MsgD.zero none 0) 28) = w1 at *
    have HQ0 := Lib.hid hq0
    clear hq0
    go_upto_region 2 with (first
      | refine Rdr.wpList_build rfl 28 _ rfl [] rfl _ built_m0 ?_
      | refine wpList_store_row rfl 28 _ _ rfl w1.heap.size (msgA MsgD.zero none 0) rfl rfl 28 (msgA MsgD.zero none 0) (heap_alloc_last _ _) (sizeM _ rfl) rfl (msgA_one _ _ _) ?_)
    try simp only [Act.put, List.setIfInBounds_toArray, List.set_cons_zero, List.set_cons_succ]
    have hq1 : ((w1.alloc (.cells (msgA MsgD.zero none 0) 28)).setRow w1.heap.size (msgA MsgD.zero none 0)).heap[w1.heap.size]? = some (.cells (msgA MsgD.zero none 0) 28 (0, 0)) ∧ Below w1.heap.size w1 ((w1.alloc (.cells (msgA MsgD.zero none 0) 28)).setRow w1.heap.size (msgA MsgD.zero none 0)) ∧ ((w1.alloc (.cells (msgA MsgD.zero none 0) 28)).setRow w1.heap.size (msgA MsgD.zero none 0)).heap.size = w.heap.size + 2 := ⟨setRow_heap _ _ _ _ _ _ (heap_alloc_last _ _), below_setRow (Below.allocs _ _) (Nat.le_refl _) _, by have := HQ0.out.2.1; simp [World.setRow]; omega⟩
    generalize (w1.alloc (.cells (msgA MsgD.zero none 0) 28)).setRow w1.heap.size (msgA MsgD.zero none 0) = w2 at *
    have hs1 := HQ0.out.2.1
    rw [hs1] at hq1 ⊢
    have HQ1 : Hid (w2.heap[w.heap.size]? = some (.cells (msgA MsgD.zero none 0) 28 (0, 0)) ∧ w2.heap[w.heap.size + 1]? = some (.cells (msgA MsgD.zero none 0) 28 (0, 0)) ∧ w2.heap.size = w.heap.size + 2 ∧ Below w.heap.size w w2) := ⟨Below.keepBlock hq1.2.1 HQ0.out.1 (by omega), hq1.1, hq1.2.2, HQ0.out.2.2.trans (hq1.2.1.mono (by omega))⟩
    clear hs1 hq1 HQ0
    go_wp2_with (first
      | refine wpList_load_row rfl 28 _ rfl (w.heap.size + 1) rfl 28 (msgA MsgD.zero none 0) (0, 0) _ (HQ1.out.2.1) Tryd.underlying28 rfl (sizeM _ rfl) ?_
      | refine wpList_store_row rfl 28 _ _ rfl w.heap.size (msgA MsgD.zero none 0) rfl rfl 28 (msgA MsgD.zero none 0) (HQ1.out.1) (sizeM _ rfl) rfl (msgA_one _ _ _) ?_)
    have HS := Lib.hid (setRow_heap _ _ _ (msgA MsgD.zero none 0) _ _ (HQ1.out.1))
    refine bodyPost_ret (results_cell_tmp2 rfl _ _ _ _ _ _ _ rfl HS.out Tryd.underlying28 rfl (sizeM _ rfl)) rfl ?_
    exact HF.out _ (below_setRow (HQ1.out.2.2.2) (Nat.le_refl _) _)
  · have hd : decide ((n0 : Int) < (1 : Int)) = false := decide_eq_false (by omega)
    obtain ⟨k, tl, hl⟩ : ∃ k tl, l = k :: tl := by
      cases l with
      | nil => exact absurd HN.out.symm hz0
      | cons k tl => exact ⟨k, tl, rfl⟩
    have HDC := Lib.hid (dec_cons k tl l hl)
    have HK0 : Hid (l[0]'(by rw [HN.out]; omega) = k) := by show _ = _; simp [hl]
    have HL := Lib.hid hl
    clear hl
    have hk256 := k.toNat_lt
    by_cases hbad : k.toNat < 1 ∨ 4 < k.toNat
    · have HF := Lib.hid (HERR.out 4 (by rw [HDC.out, if_neg (by omega), if_neg (by omega), if_neg (by omega)]))
      have hk0' : ∀ b : Bool, b = decide ((k.toNat : Int) < (1 : Int)) → decide ((k.toNat : Int) < (1 : Int)) = b := fun b h => h.symm
      generalize hKV : (k.toNat : Int) = KV at *
      have hd1 : KV < 1 ∨ 4 < KV := by omega
      clear hbad hk0'
      rcases hd1 with hlo | hhi
      · have e1 : decide (KV < 1) = true := decide_eq_true hlo
        clear hlo
        go_enter Tryd.func13, Tryd.ntmps13
        go_upto_region 1 with fail
        have hq0 : (w.alloc (.cells (msgA MsgD.zero none 0) 28)).heap[w.heap.size]? = some (.cells (msgA MsgD.zero none 0) 28 (0, 0)) ∧ (w.alloc (.cells (msgA MsgD.zero none 0) 28)).heap.size = w.heap.size + 1 ∧ Below w.heap.size w (w.alloc (.cells (msgA MsgD.zero none 0) 28)) := ⟨heap_alloc_last _ _, by simp, Below.allocs _ _⟩
        generalize w.alloc (.cells (msgA MsgD.zero none 0) 28) = w1 at *
        have HQ0 := Lib.hid hq0
        clear hq0
        go_upto_region 2 with (first
          | refine Rdr.wpList_build rfl 28 _ rfl [] rfl _ built_m0 ?_
          | refine wpList_store_row rfl 28 _ _ rfl w1.heap.size (msgA MsgD.zero none 0) rfl rfl 28 (msgA MsgD.zero none 0) (heap_alloc_last _ _) (sizeM _ rfl) rfl (msgA_one _ _ _) ?_)
        try simp only [Act.put, List.setIfInBounds_toArray, List.set_cons_zero, List.set_cons_succ]
        have hq1 : ((w1.alloc (.cells (msgA MsgD.zero none 0) 28)).setRow w1.heap.size (msgA MsgD.zero none 0)).heap[w1.heap.size]? = some (.cells (msgA MsgD.zero none 0) 28 (0, 0)) ∧ Below w1.heap.size w1 ((w1.alloc (.cells (msgA MsgD.zero none 0) 28)).setRow w1.heap.size (msgA MsgD.zero none 0)) ∧ ((w1.alloc (.cells (msgA MsgD.zero none 0) 28)).setRow w1.heap.size (msgA MsgD.zero none 0)).heap.size = w.heap.size + 2 := ⟨setRow_heap _ _ _ _ _ _ (heap_alloc_last _ _), below_setRow (Below.allocs _ _) (Nat.le_refl _) _, by have := HQ0.out.2.1; simp [World.setRow]; omega⟩
        generalize (w1.alloc (.cells (msgA MsgD.zero none 0) 28)).setRow w1.heap.size (msgA MsgD.zero none 0) = w2 at *
        have hs1 := HQ0.out.2.1
        rw [hs1] at hq1 ⊢
        have HQ1 : Hid (w2.heap[w.heap.size]? = some (.cells (msgA MsgD.zero none 0) 28 (0, 0)) ∧ w2.heap[w.heap.size + 1]? = some (.cells (msgA MsgD.zero none 0) 28 (0, 0)) ∧ w2.heap.size = w.heap.size + 2 ∧ Below w.heap.size w w2) := ⟨Below.keepBlock hq1.2.1 HQ0.out.1 (by omega), hq1.1, hq1.2.2, HQ0.out.2.2.trans (hq1.2.1.mono (by omega))⟩
        clear hs1 hq1 HQ0
        obtain ⟨b', o', hpb⟩ := HB.out.addr (by omega) (by omega)
        have hc' := Bs.byte (hpb ▸ (HB.out.below HQ1.out.2.2.2)) (j := 0) (by rw [HN.out]; omega)
        rw [HK0.out, Nat.add_zero] at hc'
        try rw [HKV.out] at hc'
        obtain rfl := hpb
        go_upto_region 5 with (first
          | refine Rdr.wpList_build rfl 28 _ rfl [(0, .int .i64 KV)] rfl _ (built_m _) ?_
          | refine wpList_store_row rfl 28 _ _ rfl w2.heap.size (msgA ⟨KV, 0, 0, 0, z16, []⟩ none 0) rfl rfl 28 (msgA MsgD.zero none 0) (heap_alloc_last _ _) (sizeM _ rfl) rfl (msgA_one _ _ _) ?_)
        try simp only [Act.put, List.setIfInBounds_toArray, List.set_cons_zero, List.set_cons_succ]
        have hq5 : ((w2.alloc (.cells (msgA MsgD.zero none 0) 28)).setRow w2.heap.size (msgA ⟨KV, 0, 0, 0, z16, []⟩ none 0)).heap[w2.heap.size]? = some (.cells (msgA ⟨KV, 0, 0, 0, z16, []⟩ none 0) 28 (0, 0)) ∧ Below w2.heap.size w2 ((w2.alloc (.cells (msgA MsgD.zero none 0) 28)).setRow w2.heap.size (msgA ⟨KV, 0, 0, 0, z16, []⟩ none 0)) ∧ ((w2.alloc (.cells (msgA MsgD.zero none 0) 28)).setRow w2.heap.size (msgA ⟨KV, 0, 0, 0, z16, []⟩ none 0)).heap.size = w.heap.size + 3 := ⟨setRow_heap _ _ _ _ _ _ (heap_alloc_last _ _), below_setRow (Below.allocs _ _) (Nat.le_refl _) _, by have := HQ1.out.2.2.1; simp [World.setRow]; omega⟩
        generalize (w2.alloc (.cells (msgA MsgD.zero none 0) 28)).setRow w2.heap.size (msgA ⟨KV, 0, 0, 0, z16, []⟩ none 0) = w5 at *
        have HQ5 := Lib.hid hq5
        have hs2 := HQ1.out.2.2.1
        clear hq5 hc'
        rw [hs2]
        clear hs2
        go_upto_region 6 with fail
        have HQW : Hid (QW w ⟨KV, 0, 0, 0, z16, []⟩ none 0 (w5.alloc (.cells #[.int .i64 0, .int .i64 3, .int .i64 27, .int .i64 5, .int .i64 5] 3))) := by
          have h5 := HQ5.out
          have h1 := HQ1.out
          have hal := Below.allocs w5 (.cells #[.int .i64 0, .int .i64 3, .int .i64 27, .int .i64 5, .int .i64 5] 3)
          have hlast := heap_alloc_last w5 (.cells #[.int .i64 0, .int .i64 3, .int .i64 27, .int .i64 5, .int .i64 5] 3)
          rw [h5.2.2] at hlast
          have hm := h5.1
          rw [h1.2.2.1] at hm
          exact ⟨Below.keepOld hal (Below.keepOld h5.2.1 h1.1), Below.keepOld hal (Below.keepOld h5.2.1 h1.2.1), Below.keepOld hal hm, hlast, (h1.2.2.2.trans (h5.2.1.mono h1.2.2.2.size)).trans (hal.mono (by omega)), rfl⟩
        have hs5 := HQ5.out.2.2
        generalize w5.alloc (.cells #[.int .i64 0, .int .i64 3, .int .i64 27, .int .i64 5, .int .i64 5] 3) = w6 at *
        rw [hs5]
        clear hs5 HQ5 HQ1
        obtain ⟨k0, k1, k2, k3, k20, kf, s1, s2, s3, s4⟩ := HQW.out.cells
        clear k0 k1 k2 k3 k20 kf s1 s2 s3 s4
        obtain ⟨k0, _⟩ := HQW.out.cells
        go_wp2_with (first
          | refine wpList_load_row rfl 28 _ rfl (w.heap.size + 1) rfl 28 (msgA MsgD.zero none 0) (0, 0) _ (HQW.out.r1) Tryd.underlying28 rfl (sizeM _ rfl) ?_
          | refine wpList_store_row rfl 28 _ _ rfl w.heap.size (msgA MsgD.zero none 0) rfl rfl 28 (msgA MsgD.zero none 0) (HQW.out.r0) (sizeM _ rfl) rfl (msgA_one _ _ _) ?_)
        have HS := Lib.hid (setRow_heap _ _ _ (msgA MsgD.zero none 0) _ _ (HQW.out.r0))
        refine bodyPost_ret (results_cell_tmp2 rfl _ _ _ _ _ _ _ rfl HS.out Tryd.underlying28 rfl (sizeM _ rfl)) rfl ?_
        exact HF.out _ (below_setRow (HQW.out.low) (Nat.le_refl _) _)
      · have e1 : decide (KV < 1) = false := decide_eq_false (by omega)
        have e2 : decide (4 < KV) = true := decide_eq_true hhi
        clear hhi
        go_enter Tryd.func13, Tryd.ntmps13
        go_upto_region 1 with fail
        have hq0 : (w.alloc (.cells (msgA MsgD.zero none 0) 28)).heap[w.heap.size]? = some (.cells (msgA MsgD.zero none 0) 28 (0, 0)) ∧ (w.alloc (.cells (msgA MsgD.zero none 0) 28)).heap.size = w.heap.size + 1 ∧ Below w.heap.size w (w.alloc (.cells (msgA MsgD.zero none 0) 28)) := ⟨heap_alloc_last _ _, by simp, Below.allocs _ _⟩
        generalize w.alloc (.cells (msgA MsgD.zero none 0) 28) = w1 at *
        have HQ0 := Lib.hid hq0
        clear hq0
        go_upto_region 2 with (first
          | refine Rdr.wpList_build rfl 28 _ rfl [] rfl _ built_m0 ?_
          | refine wpList_store_row rfl 28 _ _ rfl w1.heap.size (msgA MsgD.zero none 0) rfl rfl 28 (msgA MsgD.zero none 0) (heap_alloc_last _ _) (sizeM _ rfl) rfl (msgA_one _ _ _) ?_)
        try simp only [Act.put, List.setIfInBounds_toArray, List.set_cons_zero, List.set_cons_succ]
        have hq1 : ((w1.alloc (.cells (msgA MsgD.zero none 0) 28)).setRow w1.heap.size (msgA MsgD.zero none 0)).heap[w1.heap.size]? = some (.cells (msgA MsgD.zero none 0) 28 (0, 0)) ∧ Below w1.heap.size w1 ((w1.alloc (.cells (msgA MsgD.zero none 0) 28)).setRow w1.heap.size (msgA MsgD.zero none 0)) ∧ ((w1.alloc (.cells (msgA MsgD.zero none 0) 28)).setRow w1.heap.size (msgA MsgD.zero none 0)).heap.size = w.heap.size + 2 := ⟨setRow_heap _ _ _ _ _ _ (heap_alloc_last _ _), below_setRow (Below.allocs _ _) (Nat.le_refl _) _, by have := HQ0.out.2.1; simp [World.setRow]; omega⟩
        generalize (w1.alloc (.cells (msgA MsgD.zero none 0) 28)).setRow w1.heap.size (msgA MsgD.zero none 0) = w2 at *
        have hs1 := HQ0.out.2.1
        rw [hs1] at hq1 ⊢
        have HQ1 : Hid (w2.heap[w.heap.size]? = some (.cells (msgA MsgD.zero none 0) 28 (0, 0)) ∧ w2.heap[w.heap.size + 1]? = some (.cells (msgA MsgD.zero none 0) 28 (0, 0)) ∧ w2.heap.size = w.heap.size + 2 ∧ Below w.heap.size w w2) := ⟨Below.keepBlock hq1.2.1 HQ0.out.1 (by omega), hq1.1, hq1.2.2, HQ0.out.2.2.trans (hq1.2.1.mono (by omega))⟩
        clear hs1 hq1 HQ0
        obtain ⟨b', o', hpb⟩ := HB.out.addr (by omega) (by omega)
        have hc' := Bs.byte (hpb ▸ (HB.out.below HQ1.out.2.2.2)) (j := 0) (by rw [HN.out]; omega)
        rw [HK0.out, Nat.add_zero] at hc'
        try rw [HKV.out] at hc'
        obtain rfl := hpb
        go_upto_region 5 with (first
          | refine Rdr.wpList_build rfl 28 _ rfl [(0, .int .i64 KV)] rfl _ (built_m _) ?_
          | refine wpList_store_row rfl 28 _ _ rfl w2.heap.size (msgA ⟨KV, 0, 0, 0, z16, []⟩ none 0) rfl rfl 28 (msgA MsgD.zero none 0) (heap_alloc_last _ _) (sizeM _ rfl) rfl (msgA_one _ _ _) ?_)
        try simp only [Act.put, List.setIfInBounds_toArray, List.set_cons_zero, List.set_cons_succ]
        have hq5 : ((w2.alloc (.cells (msgA MsgD.zero none 0) 28)).setRow w2.heap.size (msgA ⟨KV, 0, 0, 0, z16, []⟩ none 0)).heap[w2.heap.size]? = some (.cells (msgA ⟨KV, 0, 0, 0, z16, []⟩ none 0) 28 (0, 0)) ∧ Below w2.heap.size w2 ((w2.alloc (.cells (msgA MsgD.zero none 0) 28)).setRow w2.heap.size (msgA ⟨KV, 0, 0, 0, z16, []⟩ none 0)) ∧ ((w2.alloc (.cells (msgA MsgD.zero none 0) 28)).setRow w2.heap.size (msgA ⟨KV, 0, 0, 0, z16, []⟩ none 0)).heap.size = w.heap.size + 3 := ⟨setRow_heap _ _ _ _ _ _ (heap_alloc_last _ _), below_setRow (Below.allocs _ _) (Nat.le_refl _) _, by have := HQ1.out.2.2.1; simp [World.setRow]; omega⟩
        generalize (w2.alloc (.cells (msgA MsgD.zero none 0) 28)).setRow w2.heap.size (msgA ⟨KV, 0, 0, 0, z16, []⟩ none 0) = w5 at *
        have HQ5 := Lib.hid hq5
        have hs2 := HQ1.out.2.2.1
        clear hq5 hc'
        rw [hs2]
        clear hs2
        go_upto_region 6 with fail
        have HQW : Hid (QW w ⟨KV, 0, 0, 0, z16, []⟩ none 0 (w5.alloc (.cells #[.int .i64 0, .int .i64 3, .int .i64 27, .int .i64 5, .int .i64 5] 3))) := by
          have h5 := HQ5.out
          have h1 := HQ1.out
          have hal := Below.allocs w5 (.cells #[.int .i64 0, .int .i64 3, .int .i64 27, .int .i64 5, .int .i64 5] 3)
          have hlast := heap_alloc_last w5 (.cells #[.int .i64 0, .int .i64 3, .int .i64 27, .int .i64 5, .int .i64 5] 3)
          rw [h5.2.2] at hlast
          have hm := h5.1
          rw [h1.2.2.1] at hm
          exact ⟨Below.keepOld hal (Below.keepOld h5.2.1 h1.1), Below.keepOld hal (Below.keepOld h5.2.1 h1.2.1), Below.keepOld hal hm, hlast, (h1.2.2.2.trans (h5.2.1.mono h1.2.2.2.size)).trans (hal.mono (by omega)), rfl⟩
        have hs5 := HQ5.out.2.2
        generalize w5.alloc (.cells #[.int .i64 0, .int .i64 3, .int .i64 27, .int .i64 5, .int .i64 5] 3) = w6 at *
        rw [hs5]
        clear hs5 HQ5 HQ1
        obtain ⟨k0, k1, k2, k3, k20, kf, s1, s2, s3, s4⟩ := HQW.out.cells
        go_wp2_with (first
          | refine wpList_load_row rfl 28 _ rfl (w.heap.size + 1) rfl 28 (msgA MsgD.zero none 0) (0, 0) _ (HQW.out.r1) Tryd.underlying28 rfl (sizeM _ rfl) ?_
          | refine wpList_store_row rfl 28 _ _ rfl w.heap.size (msgA MsgD.zero none 0) rfl rfl 28 (msgA MsgD.zero none 0) (HQW.out.r0) (sizeM _ rfl) rfl (msgA_one _ _ _) ?_)
        have HS := Lib.hid (setRow_heap _ _ _ (msgA MsgD.zero none 0) _ _ (HQW.out.r0))
        refine bodyPost_ret (results_cell_tmp2 rfl _ _ _ _ _ _ _ rfl HS.out Tryd.underlying28 rfl (sizeM _ rfl)) rfl ?_
        exact HF.out _ (below_setRow (HQW.out.low) (Nat.le_refl _) _)
    have HOKW : Hid (∀ m, decM l = (m, 0) → ∀ p c w', Bs w' p m.blob.length c m.blob → Below w.heap.size w w' → RDecP l w (.returned (.tuple #[.agg (msgA m p c), .int .i64 0])) w') := fun m he p c w' hb hb2 => by
      have hw := dec_wf l
      rw [he] at hw
      unfold RDecP
      rw [he]
      exact ⟨p, c, rfl, ⟨hw, hb⟩, hb2⟩
    by_cases hk1 : k.toNat = 1
    · have HKV : Hid ((k.toNat : Int) = 1) := by show _ = _; omega
      have hdc := HDC.out
      rw [if_pos hk1, HN.out] at hdc
      clear hbad hk256 hk1 HDC
      by_cases hs : n0 < 3
      · have e3 : decide ((n0 : Int) < 3) = true := decide_eq_true (by omega)
        have HF := Lib.hid (HERR.out 2 (by rw [hdc, if_pos hs]))
        clear hdc hs
        go_enter Tryd.func13, Tryd.ntmps13
        go_upto_region 1 with fail
        have hq0 : (w.alloc (.cells (msgA MsgD.zero none 0) 28)).heap[w.heap.size]? = some (.cells (msgA MsgD.zero none 0) 28 (0, 0)) ∧ (w.alloc (.cells (msgA MsgD.zero none 0) 28)).heap.size = w.heap.size + 1 ∧ Below w.heap.size w (w.alloc (.cells (msgA MsgD.zero none 0) 28)) := ⟨heap_alloc_last _ _, by simp, Below.allocs _ _⟩
        generalize w.alloc (.cells (msgA MsgD.zero none 0) 28) = w1 at *
        have HQ0 := Lib.hid hq0
        clear hq0
        go_upto_region 2 with (first
          | refine Rdr.wpList_build rfl 28 _ rfl [] rfl _ built_m0 ?_
          | refine wpList_store_row rfl 28 _ _ rfl w1.heap.size (msgA MsgD.zero none 0) rfl rfl 28 (msgA MsgD.zero none 0) (heap_alloc_last _ _) (sizeM _ rfl) rfl (msgA_one _ _ _) ?_)
        try simp only [Act.put, List.setIfInBounds_toArray, List.set_cons_zero, List.set_cons_succ]
        have hq1 : ((w1.alloc (.cells (msgA MsgD.zero none 0) 28)).setRow w1.heap.size (msgA MsgD.zero none 0)).heap[w1.heap.size]? = some (.cells (msgA MsgD.zero none 0) 28 (0, 0)) ∧ Below w1.heap.size w1 ((w1.alloc (.cells (msgA MsgD.zero none 0) 28)).setRow w1.heap.size (msgA MsgD.zero none 0)) ∧ ((w1.alloc (.cells (msgA MsgD.zero none 0) 28)).setRow w1.heap.size (msgA MsgD.zero none 0)).heap.size = w.heap.size + 2 := ⟨setRow_heap _ _ _ _ _ _ (heap_alloc_last _ _), below_setRow (Below.allocs _ _) (Nat.le_refl _) _, by have := HQ0.out.2.1; simp [World.setRow]; omega⟩
        generalize (w1.alloc (.cells (msgA MsgD.zero none 0) 28)).setRow w1.heap.size (msgA MsgD.zero none 0) = w2 at *
        have hs1 := HQ0.out.2.1
        rw [hs1] at hq1 ⊢
        have HQ1 : Hid (w2.heap[w.heap.size]? = some (.cells (msgA MsgD.zero none 0) 28 (0, 0)) ∧ w2.heap[w.heap.size + 1]? = some (.cells (msgA MsgD.zero none 0) 28 (0, 0)) ∧ w2.heap.size = w.heap.size + 2 ∧ Below w.heap.size w w2) := ⟨Below.keepBlock hq1.2.1 HQ0.out.1 (by omega), hq1.1, hq1.2.2, HQ0.out.2.2.trans (hq1.2.1.mono (by omega))⟩
        clear hs1 hq1 HQ0
        obtain ⟨b', o', hpb⟩ := HB.out.addr (by omega) (by omega)
        have hc' := Bs.byte (hpb ▸ (HB.out.below HQ1.out.2.2.2)) (j := 0) (by rw [HN.out]; omega)
        rw [HK0.out, Nat.add_zero] at hc'
        try rw [HKV.out] at hc'
        obtain rfl := hpb
        go_upto_region 5 with (first
          | refine Rdr.wpList_build rfl 28 _ rfl [(0, .int .i64 1)] rfl _ (built_m _) ?_
          | refine wpList_store_row rfl 28 _ _ rfl w2.heap.size (msgA ⟨1, 0, 0, 0, z16, []⟩ none 0) rfl rfl 28 (msgA MsgD.zero none 0) (heap_alloc_last _ _) (sizeM _ rfl) rfl (msgA_one _ _ _) ?_)
        try simp only [Act.put, List.setIfInBounds_toArray, List.set_cons_zero, List.set_cons_succ]
        have hq5 : ((w2.alloc (.cells (msgA MsgD.zero none 0) 28)).setRow w2.heap.size (msgA ⟨1, 0, 0, 0, z16, []⟩ none 0)).heap[w2.heap.size]? = some (.cells (msgA ⟨1, 0, 0, 0, z16, []⟩ none 0) 28 (0, 0)) ∧ Below w2.heap.size w2 ((w2.alloc (.cells (msgA MsgD.zero none 0) 28)).setRow w2.heap.size (msgA ⟨1, 0, 0, 0, z16, []⟩ none 0)) ∧ ((w2.alloc (.cells (msgA MsgD.zero none 0) 28)).setRow w2.heap.size (msgA ⟨1, 0, 0, 0, z16, []⟩ none 0)).heap.size = w.heap.size + 3 := ⟨setRow_heap _ _ _ _ _ _ (heap_alloc_last _ _), below_setRow (Below.allocs _ _) (Nat.le_refl _) _, by have := HQ1.out.2.2.1; simp [World.setRow]; omega⟩
        generalize (w2.alloc (.cells (msgA MsgD.zero none 0) 28)).setRow w2.heap.size (msgA ⟨1, 0, 0, 0, z16, []⟩ none 0) = w5 at *
        have HQ5 := Lib.hid hq5
        have hs2 := HQ1.out.2.2.1
        clear hq5 hc'
        rw [hs2]
        clear hs2
        go_upto_region 6 with fail
        have HQW : Hid (QW w ⟨1, 0, 0, 0, z16, []⟩ none 0 (w5.alloc (.cells #[.int .i64 0, .int .i64 3, .int .i64 27, .int .i64 5, .int .i64 5] 3))) := by
          have h5 := HQ5.out
          have h1 := HQ1.out
          have hal := Below.allocs w5 (.cells #[.int .i64 0, .int .i64 3, .int .i64 27, .int .i64 5, .int .i64 5] 3)
          have hlast := heap_alloc_last w5 (.cells #[.int .i64 0, .int .i64 3, .int .i64 27, .int .i64 5, .int .i64 5] 3)
          rw [h5.2.2] at hlast
          have hm := h5.1
          rw [h1.2.2.1] at hm
          exact ⟨Below.keepOld hal (Below.keepOld h5.2.1 h1.1), Below.keepOld hal (Below.keepOld h5.2.1 h1.2.1), Below.keepOld hal hm, hlast, (h1.2.2.2.trans (h5.2.1.mono h1.2.2.2.size)).trans (hal.mono (by omega)), rfl⟩
        have hs5 := HQ5.out.2.2
        generalize w5.alloc (.cells #[.int .i64 0, .int .i64 3, .int .i64 27, .int .i64 5, .int .i64 5] 3) = w6 at *
        rw [hs5]
        clear hs5 HQ5 HQ1
        obtain ⟨k0, k1, k2, k3, k20, kf, s1, s2, s3, s4⟩ := HQW.out.cells
        go_wp2_with (first
          | refine wpList_load_row rfl 28 _ rfl (w.heap.size + 1) rfl 28 (msgA MsgD.zero none 0) (0, 0) _ (HQW.out.r1) Tryd.underlying28 rfl (sizeM _ rfl) ?_
          | refine wpList_store_row rfl 28 _ _ rfl w.heap.size (msgA MsgD.zero none 0) rfl rfl 28 (msgA MsgD.zero none 0) (HQW.out.r0) (sizeM _ rfl) rfl (msgA_one _ _ _) ?_)
        have HS := Lib.hid (setRow_heap _ _ _ (msgA MsgD.zero none 0) _ _ (HQW.out.r0))
        refine bodyPost_ret (results_cell_tmp2 rfl _ _ _ _ _ _ _ rfl HS.out Tryd.underlying28 rfl (sizeM _ rfl)) rfl ?_
        exact HF.out _ (below_setRow (HQW.out.low) (Nat.le_refl _) _)
      have e3 : decide ((n0 : Int) < 3) = false := decide_eq_false (by omega)
      rw [if_neg hs] at hdc
      by_cases hg : 3 < n0
      · have e4 : decide ((3 : Int) < (n0 : Int)) = true := decide_eq_true (by omega)
        have HF := Lib.hid (HERR.out 3 (by rw [hdc, if_pos hg]))
        clear hdc
        go_enter Tryd.func13, Tryd.ntmps13
        go_upto_region 1 with fail
        have hq0 : (w.alloc (.cells (msgA MsgD.zero none 0) 28)).heap[w.heap.size]? = some (.cells (msgA MsgD.zero none 0) 28 (0, 0)) ∧ (w.alloc (.cells (msgA MsgD.zero none 0) 28)).heap.size = w.heap.size + 1 ∧ Below w.heap.size w (w.alloc (.cells (msgA MsgD.zero none 0) 28)) := ⟨heap_alloc_last _ _, by simp, Below.allocs _ _⟩
        generalize w.alloc (.cells (msgA MsgD.zero none 0) 28) = w1 at *
        have HQ0 := Lib.hid hq0
        clear hq0
        go_upto_region 2 with (first
          | refine Rdr.wpList_build rfl 28 _ rfl [] rfl _ built_m0 ?_
          | refine wpList_store_row rfl 28 _ _ rfl w1.heap.size (msgA MsgD.zero none 0) rfl rfl 28 (msgA MsgD.zero none 0) (heap_alloc_last _ _) (sizeM _ rfl) rfl (msgA_one _ _ _) ?_)
        try simp only [Act.put, List.setIfInBounds_toArray, List.set_cons_zero, List.set_cons_succ]
        have hq1 : ((w1.alloc (.cells (msgA MsgD.zero none 0) 28)).setRow w1.heap.size (msgA MsgD.zero none 0)).heap[w1.heap.size]? = some (.cells (msgA MsgD.zero none 0) 28 (0, 0)) ∧ Below w1.heap.size w1 ((w1.alloc (.cells (msgA MsgD.zero none 0) 28)).setRow w1.heap.size (msgA MsgD.zero none 0)) ∧ ((w1.alloc (.cells (msgA MsgD.zero none 0) 28)).setRow w1.heap.size (msgA MsgD.zero none 0)).heap.size = w.heap.size + 2 := ⟨setRow_heap _ _ _ _ _ _ (heap_alloc_last _ _), below_setRow (Below.allocs _ _) (Nat.le_refl _) _, by have := HQ0.out.2.1; simp [World.setRow]; omega⟩
        generalize (w1.alloc (.cells (msgA MsgD.zero none 0) 28)).setRow w1.heap.size (msgA MsgD.zero none 0) = w2 at *
        have hs1 := HQ0.out.2.1
        rw [hs1] at hq1 ⊢
        have HQ1 : Hid (w2.heap[w.heap.size]? = some (.cells (msgA MsgD.zero none 0) 28 (0, 0)) ∧ w2.heap[w.heap.size + 1]? = some (.cells (msgA MsgD.zero none 0) 28 (0, 0)) ∧ w2.heap.size = w.heap.size + 2 ∧ Below w.heap.size w w2) := ⟨Below.keepBlock hq1.2.1 HQ0.out.1 (by omega), hq1.1, hq1.2.2, HQ0.out.2.2.trans (hq1.2.1.mono (by omega))⟩
        clear hs1 hq1 HQ0
        obtain ⟨b', o', hpb⟩ := HB.out.addr (by omega) (by omega)
        have hc' := Bs.byte (hpb ▸ (HB.out.below HQ1.out.2.2.2)) (j := 0) (by rw [HN.out]; omega)
        rw [HK0.out, Nat.add_zero] at hc'
        try rw [HKV.out] at hc'
        obtain rfl := hpb
        go_upto_region 5 with (first
          | refine Rdr.wpList_build rfl 28 _ rfl [(0, .int .i64 1)] rfl _ (built_m _) ?_
          | refine wpList_store_row rfl 28 _ _ rfl w2.heap.size (msgA ⟨1, 0, 0, 0, z16, []⟩ none 0) rfl rfl 28 (msgA MsgD.zero none 0) (heap_alloc_last _ _) (sizeM _ rfl) rfl (msgA_one _ _ _) ?_)
        try simp only [Act.put, List.setIfInBounds_toArray, List.set_cons_zero, List.set_cons_succ]
        have hq5 : ((w2.alloc (.cells (msgA MsgD.zero none 0) 28)).setRow w2.heap.size (msgA ⟨1, 0, 0, 0, z16, []⟩ none 0)).heap[w2.heap.size]? = some (.cells (msgA ⟨1, 0, 0, 0, z16, []⟩ none 0) 28 (0, 0)) ∧ Below w2.heap.size w2 ((w2.alloc (.cells (msgA MsgD.zero none 0) 28)).setRow w2.heap.size (msgA ⟨1, 0, 0, 0, z16, []⟩ none 0)) ∧ ((w2.alloc (.cells (msgA MsgD.zero none 0) 28)).setRow w2.heap.size (msgA ⟨1, 0, 0, 0, z16, []⟩ none 0)).heap.size = w.heap.size + 3 := ⟨setRow_heap _ _ _ _ _ _ (heap_alloc_last _ _), below_setRow (Below.allocs _ _) (Nat.le_refl _) _, by have := HQ1.out.2.2.1; simp [World.setRow]; omega⟩
        generalize (w2.alloc (.cells (msgA MsgD.zero none 0) 28)).setRow w2.heap.size (msgA ⟨1, 0, 0, 0, z16, []⟩ none 0) = w5 at *
        have HQ5 := Lib.hid hq5
        have hs2 := HQ1.out.2.2.1
        clear hq5 hc'
        rw [hs2]
        clear hs2
        go_upto_region 6 with fail
        have HQW : Hid (QW w ⟨1, 0, 0, 0, z16, []⟩ none 0 (w5.alloc (.cells #[.int .i64 0, .int .i64 3, .int .i64 27, .int .i64 5, .int .i64 5] 3))) := by
          have h5 := HQ5.out
          have h1 := HQ1.out
          have hal := Below.allocs w5 (.cells #[.int .i64 0, .int .i64 3, .int .i64 27, .int .i64 5, .int .i64 5] 3)
          have hlast := heap_alloc_last w5 (.cells #[.int .i64 0, .int .i64 3, .int .i64 27, .int .i64 5, .int .i64 5] 3)
          rw [h5.2.2] at hlast
          have hm := h5.1
          rw [h1.2.2.1] at hm
          exact ⟨Below.keepOld hal (Below.keepOld h5.2.1 h1.1), Below.keepOld hal (Below.keepOld h5.2.1 h1.2.1), Below.keepOld hal hm, hlast, (h1.2.2.2.trans (h5.2.1.mono h1.2.2.2.size)).trans (hal.mono (by omega)), rfl⟩
        have hs5 := HQ5.out.2.2
        generalize w5.alloc (.cells #[.int .i64 0, .int .i64 3, .int .i64 27, .int .i64 5, .int .i64 5] 3) = w6 at *
        rw [hs5]
        clear hs5 HQ5 HQ1
        obtain ⟨k0, k1, k2, k3, k20, kf, s1, s2, s3, s4⟩ := HQW.out.cells
        obtain ⟨q9, hrun, hqb⟩ := cut3 l HB.out 1 2 1 3 (by omega) (by omega) (by omega)
        have HQB := Lib.hid hqb
        clear hqb
        go_wp2_with fail
        refine (value_any _ _ _ _ _ (HQB.out _ HQW.out.low) (by omega)).mono ?_
        rintro e w' ⟨rfl, rfl⟩
        clear hrun HQB
        generalize Rdr.beN ((l.drop 1).take 2) = n1 at *
        have hqw := HQW.out.set 3 (.int .u32 (n1 : Int)) (set3 _ _ _ _) rfl
        have kfc := kf 3
        clear kf
        go_upto_region 27 with fail
        clear kfc HQW k0 k1 k2 k3 k20 s1 s2 s3 s4
        generalize w6.setCell ⟨w.heap.size + 2, 3, none⟩ (.int .u32 (n1 : Int)) = w7 at *
        have HQW := Lib.hid hqw
        clear hqw
        obtain ⟨k0, k1, k2, k3, k20, kf, s1, s2, s3, s4⟩ := HQW.out.cells
        go_wp2_with (first
          | refine wpList_load_row rfl 28 _ rfl (w.heap.size + 1) rfl 28 (msgA MsgD.zero none 0) (0, 0) _ (HQW.out.r1) Tryd.underlying28 rfl (sizeM _ rfl) ?_
          | refine wpList_store_row rfl 28 _ _ rfl w.heap.size (msgA MsgD.zero none 0) rfl rfl 28 (msgA MsgD.zero none 0) (HQW.out.r0) (sizeM _ rfl) rfl (msgA_one _ _ _) ?_)
        have HS := Lib.hid (setRow_heap _ _ _ (msgA MsgD.zero none 0) _ _ (HQW.out.r0))
        refine bodyPost_ret (results_cell_tmp2 rfl _ _ _ _ _ _ _ rfl HS.out Tryd.underlying28 rfl (sizeM _ rfl)) rfl ?_
        exact HF.out _ (below_setRow (HQW.out.low) (Nat.le_refl _) _)
      · have e4 : decide ((3 : Int) < (n0 : Int)) = false := decide_eq_false (by omega)
        rw [if_neg hg] at hdc
        have HFO := Lib.hid (HOKW.out _ hdc)
        clear hdc
        go_enter Tryd.func13, Tryd.ntmps13
        go_upto_region 1 with fail
        have hq0 : (w.alloc (.cells (msgA MsgD.zero none 0) 28)).heap[w.heap.size]? = some (.cells (msgA MsgD.zero none 0) 28 (0, 0)) ∧ (w.alloc (.cells (msgA MsgD.zero none 0) 28)).heap.size = w.heap.size + 1 ∧ Below w.heap.size w (w.alloc (.cells (msgA MsgD.zero none 0) 28)) := ⟨heap_alloc_last _ _, by simp, Below.allocs _ _⟩
        generalize w.alloc (.cells (msgA MsgD.zero none 0) 28) = w1 at *
        have HQ0 := Lib.hid hq0
        clear hq0
        go_upto_region 2 with (first
          | refine Rdr.wpList_build rfl 28 _ rfl [] rfl _ built_m0 ?_
          | refine wpList_store_row rfl 28 _ _ rfl w1.heap.size (msgA MsgD.zero none 0) rfl rfl 28 (msgA MsgD.zero none 0) (heap_alloc_last _ _) (sizeM _ rfl) rfl (msgA_one _ _ _) ?_)
        try simp only [Act.put, List.setIfInBounds_toArray, List.set_cons_zero, List.set_cons_succ]
        have hq1 : ((w1.alloc (.cells (msgA MsgD.zero none 0) 28)).setRow w1.heap.size (msgA MsgD.zero none 0)).heap[w1.heap.size]? = some (.cells (msgA MsgD.zero none 0) 28 (0, 0)) ∧ Below w1.heap.size w1 ((w1.alloc (.cells (msgA MsgD.zero none 0) 28)).setRow w1.heap.size (msgA MsgD.zero none 0)) ∧ ((w1.alloc (.cells (msgA MsgD.zero none 0) 28)).setRow w1.heap.size (msgA MsgD.zero none 0)).heap.size = w.heap.size + 2 := ⟨setRow_heap _ _ _ _ _ _ (heap_alloc_last _ _), below_setRow (Below.allocs _ _) (Nat.le_refl _) _, by have := HQ0.out.2.1; simp [World.setRow]; omega⟩
        generalize (w1.alloc (.cells (msgA MsgD.zero none 0) 28)).setRow w1.heap.size (msgA MsgD.zero none 0) = w2 at *
        have hs1 := HQ0.out.2.1
        rw [hs1] at hq1 ⊢
        have HQ1 : Hid (w2.heap[w.heap.size]? = some (.cells (msgA MsgD.zero none 0) 28 (0, 0)) ∧ w2.heap[w.heap.size + 1]? = some (.cells (msgA MsgD.zero none 0) 28 (0, 0)) ∧ w2.heap.size = w.heap.size + 2 ∧ Below w.heap.size w w2) := ⟨Below.keepBlock hq1.2.1 HQ0.out.1 (by omega), hq1.1, hq1.2.2, HQ0.out.2.2.trans (hq1.2.1.mono (by omega))⟩
        clear hs1 hq1 HQ0
        obtain ⟨b', o', hpb⟩ := HB.out.addr (by omega) (by omega)
        have hc' := Bs.byte (hpb ▸ (HB.out.below HQ1.out.2.2.2)) (j := 0) (by rw [HN.out]; omega)
        rw [HK0.out, Nat.add_zero] at hc'
        try rw [HKV.out] at hc'
        obtain rfl := hpb
        go_upto_region 5 with (first
          | refine Rdr.wpList_build rfl 28 _ rfl [(0, .int .i64 1)] rfl _ (built_m _) ?_
          | refine wpList_store_row rfl 28 _ _ rfl w2.heap.size (msgA ⟨1, 0, 0, 0, z16, []⟩ none 0) rfl rfl 28 (msgA MsgD.zero none 0) (heap_alloc_last _ _) (sizeM _ rfl) rfl (msgA_one _ _ _) ?_)
        try simp only [Act.put, List.setIfInBounds_toArray, List.set_cons_zero, List.set_cons_succ]
        have hq5 : ((w2.alloc (.cells (msgA MsgD.zero none 0) 28)).setRow w2.heap.size (msgA ⟨1, 0, 0, 0, z16, []⟩ none 0)).heap[w2.heap.size]? = some (.cells (msgA ⟨1, 0, 0, 0, z16, []⟩ none 0) 28 (0, 0)) ∧ Below w2.heap.size w2 ((w2.alloc (.cells (msgA MsgD.zero none 0) 28)).setRow w2.heap.size (msgA ⟨1, 0, 0, 0, z16, []⟩ none 0)) ∧ ((w2.alloc (.cells (msgA MsgD.zero none 0) 28)).setRow w2.heap.size (msgA ⟨1, 0, 0, 0, z16, []⟩ none 0)).heap.size = w.heap.size + 3 := ⟨setRow_heap _ _ _ _ _ _ (heap_alloc_last _ _), below_setRow (Below.allocs _ _) (Nat.le_refl _) _, by have := HQ1.out.2.2.1; simp [World.setRow]; omega⟩
        generalize (w2.alloc (.cells (msgA MsgD.zero none 0) 28)).setRow w2.heap.size (msgA ⟨1, 0, 0, 0, z16, []⟩ none 0) = w5 at *
        have HQ5 := Lib.hid hq5
        have hs2 := HQ1.out.2.2.1
        clear hq5 hc'
        rw [hs2]
        clear hs2
        go_upto_region 6 with fail
        have HQW : Hid (QW w ⟨1, 0, 0, 0, z16, []⟩ none 0 (w5.alloc (.cells #[.int .i64 0, .int .i64 3, .int .i64 27, .int .i64 5, .int .i64 5] 3))) := by
          have h5 := HQ5.out
          have h1 := HQ1.out
          have hal := Below.allocs w5 (.cells #[.int .i64 0, .int .i64 3, .int .i64 27, .int .i64 5, .int .i64 5] 3)
          have hlast := heap_alloc_last w5 (.cells #[.int .i64 0, .int .i64 3, .int .i64 27, .int .i64 5, .int .i64 5] 3)
          rw [h5.2.2] at hlast
          have hm := h5.1
          rw [h1.2.2.1] at hm
          exact ⟨Below.keepOld hal (Below.keepOld h5.2.1 h1.1), Below.keepOld hal (Below.keepOld h5.2.1 h1.2.1), Below.keepOld hal hm, hlast, (h1.2.2.2.trans (h5.2.1.mono h1.2.2.2.size)).trans (hal.mono (by omega)), rfl⟩
        have hs5 := HQ5.out.2.2
        generalize w5.alloc (.cells #[.int .i64 0, .int .i64 3, .int .i64 27, .int .i64 5, .int .i64 5] 3) = w6 at *
        rw [hs5]
        clear hs5 HQ5 HQ1
        obtain ⟨k0, k1, k2, k3, k20, kf, s1, s2, s3, s4⟩ := HQW.out.cells
        obtain ⟨q9, hrun, hqb⟩ := cut3 l HB.out 1 2 1 3 (by omega) (by omega) (by omega)
        have HQB := Lib.hid hqb
        clear hqb
        go_wp2_with fail
        refine (value_any _ _ _ _ _ (HQB.out _ HQW.out.low) (by omega)).mono ?_
        rintro e w' ⟨rfl, rfl⟩
        clear hrun HQB
        generalize Rdr.beN ((l.drop 1).take 2) = n1 at *
        have hqw := HQW.out.set 3 (.int .u32 (n1 : Int)) (set3 _ _ _ _) rfl
        have kfc := kf 3
        clear kf
        go_upto_region 27 with fail
        clear kfc HQW k0 k1 k2 k3 k20 s1 s2 s3 s4
        generalize w6.setCell ⟨w.heap.size + 2, 3, none⟩ (.int .u32 (n1 : Int)) = w7 at *
        have HQW := Lib.hid hqw
        clear hqw
        obtain ⟨k0, k1, k2, k3, k20, kf, s1, s2, s3, s4⟩ := HQW.out.cells
        go_wp2_with (first
          | refine wpList_load_row rfl 28 _ rfl (w.heap.size + 2) rfl 28 (msgA ⟨1, 0, 0, n1, z16, []⟩ none 0) (0, 0) _ HQW.out.r2 Tryd.underlying28 rfl (sizeM _ (msgA_size HQW.out.hint _ _)) ?_
          | refine wpList_store_row rfl 28 _ _ rfl w.heap.size (msgA ⟨1, 0, 0, n1, z16, []⟩ none 0) rfl rfl 28 (msgA MsgD.zero none 0) HQW.out.r0 (sizeM _ (msgA_size HQW.out.hint _ _)) (by rw [msgA_size HQW.out.hint]; rfl) (msgA_one _ _ _) ?_)
        have HS := Lib.hid (setRow_heap _ _ _ (msgA ⟨1, 0, 0, n1, z16, []⟩ none 0) _ _ HQW.out.r0)
        refine bodyPost_ret (results_cell_tmp2 rfl _ _ _ _ _ _ _ rfl HS.out Tryd.underlying28 rfl (sizeM _ (msgA_size HQW.out.hint _ _))) rfl ?_
        exact HFO.out _ _ _ (Sl.nil _ _) (below_setRow HQW.out.low (Nat.le_refl _) _)
    by_cases hk3 : k.toNat = 3
    · have HKV : Hid ((k.toNat : Int) = 3) := by show _ = _; omega
      have hdc := HDC.out
      rw [if_neg (by omega), if_neg (by omega), if_pos (by omega), HN.out, HKV.out] at hdc
      clear hbad hk256 hk3 HDC hk1
      by_cases hs : n0 < 5
      · have e3 : decide ((n0 : Int) < 5) = true := decide_eq_true (by omega)
        have HF := Lib.hid (HERR.out 2 (by rw [hdc, if_pos hs]))
        clear hdc hs
        go_enter Tryd.func13, Tryd.ntmps13
        go_upto_region 1 with fail
        have hq0 : (w.alloc (.cells (msgA MsgD.zero none 0) 28)).heap[w.heap.size]? = some (.cells (msgA MsgD.zero none 0) 28 (0, 0)) ∧ (w.alloc (.cells (msgA MsgD.zero none 0) 28)).heap.size = w.heap.size + 1 ∧ Below w.heap.size w (w.alloc (.cells (msgA MsgD.zero none 0) 28)) := ⟨heap_alloc_last _ _, by simp, Below.allocs _ _⟩
        generalize w.alloc (.cells (msgA MsgD.zero none 0) 28) = w1 at *
        have HQ0 := Lib.hid hq0
        clear hq0
        go_upto_region 2 with (first
          | refine Rdr.wpList_build rfl 28 _ rfl [] rfl _ built_m0 ?_
          | refine wpList_store_row rfl 28 _ _ rfl w1.heap.size (msgA MsgD.zero none 0) rfl rfl 28 (msgA MsgD.zero none 0) (heap_alloc_last _ _) (sizeM _ rfl) rfl (msgA_one _ _ _) ?_)
        try simp only [Act.put, List.setIfInBounds_toArray, List.set_cons_zero, List.set_cons_succ]
        have hq1 : ((w1.alloc (.cells (msgA MsgD.zero none 0) 28)).setRow w1.heap.size (msgA MsgD.zero none 0)).heap[w1.heap.size]? = some (.cells (msgA MsgD.zero none 0) 28 (0, 0)) ∧ Below w1.heap.size w1 ((w1.alloc (.cells (msgA MsgD.zero none 0) 28)).setRow w1.heap.size (msgA MsgD.zero none 0)) ∧ ((w1.alloc (.cells (msgA MsgD.zero none 0) 28)).setRow w1.heap.size (msgA MsgD.zero none 0)).heap.size = w.heap.size + 2 := ⟨setRow_heap _ _ _ _ _ _ (heap_alloc_last _ _), below_setRow (Below.allocs _ _) (Nat.le_refl _) _, by have := HQ0.out.2.1; simp [World.setRow]; omega⟩
        generalize (w1.alloc (.cells (msgA MsgD.zero none 0) 28)).setRow w1.heap.size (msgA MsgD.zero none 0) = w2 at *
        have hs1 := HQ0.out.2.1
        rw [hs1] at hq1 ⊢
        have HQ1 : Hid (w2.heap[w.heap.size]? = some (.cells (msgA MsgD.zero none 0) 28 (0, 0)) ∧ w2.heap[w.heap.size + 1]? = some (.cells (msgA MsgD.zero none 0) 28 (0, 0)) ∧ w2.heap.size = w.heap.size + 2 ∧ Below w.heap.size w w2) := ⟨Below.keepBlock hq1.2.1 HQ0.out.1 (by omega), hq1.1, hq1.2.2, HQ0.out.2.2.trans (hq1.2.1.mono (by omega))⟩
        clear hs1 hq1 HQ0
        obtain ⟨b', o', hpb⟩ := HB.out.addr (by omega) (by omega)
        have hc' := Bs.byte (hpb ▸ (HB.out.below HQ1.out.2.2.2)) (j := 0) (by rw [HN.out]; omega)
        rw [HK0.out, Nat.add_zero] at hc'
        try rw [HKV.out] at hc'
        obtain rfl := hpb
        go_upto_region 5 with (first
          | refine Rdr.wpList_build rfl 28 _ rfl [(0, .int .i64 3)] rfl _ (built_m _) ?_
          | refine wpList_store_row rfl 28 _ _ rfl w2.heap.size (msgA ⟨3, 0, 0, 0, z16, []⟩ none 0) rfl rfl 28 (msgA MsgD.zero none 0) (heap_alloc_last _ _) (sizeM _ rfl) rfl (msgA_one _ _ _) ?_)
        try simp only [Act.put, List.setIfInBounds_toArray, List.set_cons_zero, List.set_cons_succ]
        have hq5 : ((w2.alloc (.cells (msgA MsgD.zero none 0) 28)).setRow w2.heap.size (msgA ⟨3, 0, 0, 0, z16, []⟩ none 0)).heap[w2.heap.size]? = some (.cells (msgA ⟨3, 0, 0, 0, z16, []⟩ none 0) 28 (0, 0)) ∧ Below w2.heap.size w2 ((w2.alloc (.cells (msgA MsgD.zero none 0) 28)).setRow w2.heap.size (msgA ⟨3, 0, 0, 0, z16, []⟩ none 0)) ∧ ((w2.alloc (.cells (msgA MsgD.zero none 0) 28)).setRow w2.heap.size (msgA ⟨3, 0, 0, 0, z16, []⟩ none 0)).heap.size = w.heap.size + 3 := ⟨setRow_heap _ _ _ _ _ _ (heap_alloc_last _ _), below_setRow (Below.allocs _ _) (Nat.le_refl _) _, by have := HQ1.out.2.2.1; simp [World.setRow]; omega⟩
        generalize (w2.alloc (.cells (msgA MsgD.zero none 0) 28)).setRow w2.heap.size (msgA ⟨3, 0, 0, 0, z16, []⟩ none 0) = w5 at *
        have HQ5 := Lib.hid hq5
        have hs2 := HQ1.out.2.2.1
        clear hq5 hc'
        rw [hs2]
        clear hs2
        go_upto_region 6 with fail
        have HQW : Hid (QW w ⟨3, 0, 0, 0, z16, []⟩ none 0 (w5.alloc (.cells #[.int .i64 0, .int .i64 3, .int .i64 27, .int .i64 5, .int .i64 5] 3))) := by
          have h5 := HQ5.out
          have h1 := HQ1.out
          have hal := Below.allocs w5 (.cells #[.int .i64 0, .int .i64 3, .int .i64 27, .int .i64 5, .int .i64 5] 3)
          have hlast := heap_alloc_last w5 (.cells #[.int .i64 0, .int .i64 3, .int .i64 27, .int .i64 5, .int .i64 5] 3)
          rw [h5.2.2] at hlast
          have hm := h5.1
          rw [h1.2.2.1] at hm
          exact ⟨Below.keepOld hal (Below.keepOld h5.2.1 h1.1), Below.keepOld hal (Below.keepOld h5.2.1 h1.2.1), Below.keepOld hal hm, hlast, (h1.2.2.2.trans (h5.2.1.mono h1.2.2.2.size)).trans (hal.mono (by omega)), rfl⟩
        have hs5 := HQ5.out.2.2
        generalize w5.alloc (.cells #[.int .i64 0, .int .i64 3, .int .i64 27, .int .i64 5, .int .i64 5] 3) = w6 at *
        rw [hs5]
        clear hs5 HQ5 HQ1
        obtain ⟨k0, k1, k2, k3, k20, kf, s1, s2, s3, s4⟩ := HQW.out.cells
        go_wp2_with (first
          | refine wpList_load_row rfl 28 _ rfl (w.heap.size + 1) rfl 28 (msgA MsgD.zero none 0) (0, 0) _ (HQW.out.r1) Tryd.underlying28 rfl (sizeM _ rfl) ?_
          | refine wpList_store_row rfl 28 _ _ rfl w.heap.size (msgA MsgD.zero none 0) rfl rfl 28 (msgA MsgD.zero none 0) (HQW.out.r0) (sizeM _ rfl) rfl (msgA_one _ _ _) ?_)
        have HS := Lib.hid (setRow_heap _ _ _ (msgA MsgD.zero none 0) _ _ (HQW.out.r0))
        refine bodyPost_ret (results_cell_tmp2 rfl _ _ _ _ _ _ _ rfl HS.out Tryd.underlying28 rfl (sizeM _ rfl)) rfl ?_
        exact HF.out _ (below_setRow (HQW.out.low) (Nat.le_refl _) _)
      have e3 : decide ((n0 : Int) < 5) = false := decide_eq_false (by omega)
      rw [if_neg hs] at hdc
      by_cases hg : 5 < n0
      · have e4 : decide ((5 : Int) < (n0 : Int)) = true := decide_eq_true (by omega)
        have HF := Lib.hid (HERR.out 3 (by rw [hdc, if_pos hg]))
        clear hdc
        go_enter Tryd.func13, Tryd.ntmps13
        go_upto_region 1 with fail
        have hq0 : (w.alloc (.cells (msgA MsgD.zero none 0) 28)).heap[w.heap.size]? = some (.cells (msgA MsgD.zero none 0) 28 (0, 0)) ∧ (w.alloc (.cells (msgA MsgD.zero none 0) 28)).heap.size = w.heap.size + 1 ∧ Below w.heap.size w (w.alloc (.cells (msgA MsgD.zero none 0) 28)) := ⟨heap_alloc_last _ _, by simp, Below.allocs _ _⟩
        generalize w.alloc (.cells (msgA MsgD.zero none 0) 28) = w1 at *
        have HQ0 := Lib.hid hq0
        clear hq0
        go_upto_region 2 with (first
          | refine Rdr.wpList_build rfl 28 _ rfl [] rfl _ built_m0 ?_
          | refine wpList_store_row rfl 28 _ _ rfl w1.heap.size (msgA MsgD.zero none 0) rfl rfl 28 (msgA MsgD.zero none 0) (heap_alloc_last _ _) (sizeM _ rfl) rfl (msgA_one _ _ _) ?_)
        try simp only [Act.put, List.setIfInBounds_toArray, List.set_cons_zero, List.set_cons_succ]
        have hq1 : ((w1.alloc (.cells (msgA MsgD.zero none 0) 28)).setRow w1.heap.size (msgA MsgD.zero none 0)).heap[w1.heap.size]? = some (.cells (msgA MsgD.zero none 0) 28 (0, 0)) ∧ Below w1.heap.size w1 ((w1.alloc (.cells (msgA MsgD.zero none 0) 28)).setRow w1.heap.size (msgA MsgD.zero none 0)) ∧ ((w1.alloc (.cells (msgA MsgD.zero none 0) 28)).setRow w1.heap.size (msgA MsgD.zero none 0)).heap.size = w.heap.size + 2 := ⟨setRow_heap _ _ _ _ _ _ (heap_alloc_last _ _), below_setRow (Below.allocs _ _) (Nat.le_refl _) _, by have := HQ0.out.2.1; simp [World.setRow]; omega⟩
        generalize (w1.alloc (.cells (msgA MsgD.zero none 0) 28)).setRow w1.heap.size (msgA MsgD.zero none 0) = w2 at *
        have hs1 := HQ0.out.2.1
        rw [hs1] at hq1 ⊢
        have HQ1 : Hid (w2.heap[w.heap.size]? = some (.cells (msgA MsgD.zero none 0) 28 (0, 0)) ∧ w2.heap[w.heap.size + 1]? = some (.cells (msgA MsgD.zero none 0) 28 (0, 0)) ∧ w2.heap.size = w.heap.size + 2 ∧ Below w.heap.size w w2) := ⟨Below.keepBlock hq1.2.1 HQ0.out.1 (by omega), hq1.1, hq1.2.2, HQ0.out.2.2.trans (hq1.2.1.mono (by omega))⟩
        clear hs1 hq1 HQ0
        obtain ⟨b', o', hpb⟩ := HB.out.addr (by omega) (by omega)
        have hc' := Bs.byte (hpb ▸ (HB.out.below HQ1.out.2.2.2)) (j := 0) (by rw [HN.out]; omega)
        rw [HK0.out, Nat.add_zero] at hc'
        try rw [HKV.out] at hc'
        obtain rfl := hpb
        go_upto_region 5 with (first
          | refine Rdr.wpList_build rfl 28 _ rfl [(0, .int .i64 3)] rfl _ (built_m _) ?_
          | refine wpList_store_row rfl 28 _ _ rfl w2.heap.size (msgA ⟨3, 0, 0, 0, z16, []⟩ none 0) rfl rfl 28 (msgA MsgD.zero none 0) (heap_alloc_last _ _) (sizeM _ rfl) rfl (msgA_one _ _ _) ?_)
        try simp only [Act.put, List.setIfInBounds_toArray, List.set_cons_zero, List.set_cons_succ]
        have hq5 : ((w2.alloc (.cells (msgA MsgD.zero none 0) 28)).setRow w2.heap.size (msgA ⟨3, 0, 0, 0, z16, []⟩ none 0)).heap[w2.heap.size]? = some (.cells (msgA ⟨3, 0, 0, 0, z16, []⟩ none 0) 28 (0, 0)) ∧ Below w2.heap.size w2 ((w2.alloc (.cells (msgA MsgD.zero none 0) 28)).setRow w2.heap.size (msgA ⟨3, 0, 0, 0, z16, []⟩ none 0)) ∧ ((w2.alloc (.cells (msgA MsgD.zero none 0) 28)).setRow w2.heap.size (msgA ⟨3, 0, 0, 0, z16, []⟩ none 0)).heap.size = w.heap.size + 3 := ⟨setRow_heap _ _ _ _ _ _ (heap_alloc_last _ _), below_setRow (Below.allocs _ _) (Nat.le_refl _) _, by have := HQ1.out.2.2.1; simp [World.setRow]; omega⟩
        generalize (w2.alloc (.cells (msgA MsgD.zero none 0) 28)).setRow w2.heap.size (msgA ⟨3, 0, 0, 0, z16, []⟩ none 0) = w5 at *
        have HQ5 := Lib.hid hq5
        have hs2 := HQ1.out.2.2.1
        clear hq5 hc'
        rw [hs2]
        clear hs2
        go_upto_region 6 with fail
        have HQW : Hid (QW w ⟨3, 0, 0, 0, z16, []⟩ none 0 (w5.alloc (.cells #[.int .i64 0, .int .i64 3, .int .i64 27, .int .i64 5, .int .i64 5] 3))) := by
          have h5 := HQ5.out
          have h1 := HQ1.out
          have hal := Below.allocs w5 (.cells #[.int .i64 0, .int .i64 3, .int .i64 27, .int .i64 5, .int .i64 5] 3)
          have hlast := heap_alloc_last w5 (.cells #[.int .i64 0, .int .i64 3, .int .i64 27, .int .i64 5, .int .i64 5] 3)
          rw [h5.2.2] at hlast
          have hm := h5.1
          rw [h1.2.2.1] at hm
          exact ⟨Below.keepOld hal (Below.keepOld h5.2.1 h1.1), Below.keepOld hal (Below.keepOld h5.2.1 h1.2.1), Below.keepOld hal hm, hlast, (h1.2.2.2.trans (h5.2.1.mono h1.2.2.2.size)).trans (hal.mono (by omega)), rfl⟩
        have hs5 := HQ5.out.2.2
        generalize w5.alloc (.cells #[.int .i64 0, .int .i64 3, .int .i64 27, .int .i64 5, .int .i64 5] 3) = w6 at *
        rw [hs5]
        clear hs5 HQ5 HQ1
        obtain ⟨k0, k1, k2, k3, k20, kf, s1, s2, s3, s4⟩ := HQW.out.cells
        obtain ⟨q9, hrun, hqb⟩ := cut3 l HB.out 1 4 1 5 (by omega) (by omega) (by omega)
        have HQB := Lib.hid hqb
        clear hqb
        go_wp2_with fail
        refine (value_any _ _ _ _ _ (HQB.out _ HQW.out.low) (by omega)).mono ?_
        rintro e w' ⟨rfl, rfl⟩
        clear hrun HQB
        generalize Rdr.beN ((l.drop 1).take 4) = n1 at *
        have hqw := HQW.out.set 1 (.int .u32 (n1 : Int)) (set1 _ _ _ _) rfl
        have kfc := kf 1
        clear kf
        go_upto_region 14 with fail
        clear kfc HQW k0 k1 k2 k3 k20 s1 s2 s3 s4
        generalize w6.setCell ⟨w.heap.size + 2, 1, none⟩ (.int .u32 (n1 : Int)) = w7 at *
        have HQW := Lib.hid hqw
        clear hqw
        obtain ⟨k0, k1, k2, k3, k20, kf, s1, s2, s3, s4⟩ := HQW.out.cells
        go_wp2_with (first
          | refine wpList_load_row rfl 28 _ rfl (w.heap.size + 1) rfl 28 (msgA MsgD.zero none 0) (0, 0) _ (HQW.out.r1) Tryd.underlying28 rfl (sizeM _ rfl) ?_
          | refine wpList_store_row rfl 28 _ _ rfl w.heap.size (msgA MsgD.zero none 0) rfl rfl 28 (msgA MsgD.zero none 0) (HQW.out.r0) (sizeM _ rfl) rfl (msgA_one _ _ _) ?_)
        have HS := Lib.hid (setRow_heap _ _ _ (msgA MsgD.zero none 0) _ _ (HQW.out.r0))
        refine bodyPost_ret (results_cell_tmp2 rfl _ _ _ _ _ _ _ rfl HS.out Tryd.underlying28 rfl (sizeM _ rfl)) rfl ?_
        exact HF.out _ (below_setRow (HQW.out.low) (Nat.le_refl _) _)
      · have e4 : decide ((5 : Int) < (n0 : Int)) = false := decide_eq_false (by omega)
        rw [if_neg hg] at hdc
        have HFO := Lib.hid (HOKW.out _ hdc)
        clear hdc
        go_enter Tryd.func13, Tryd.ntmps13
        go_upto_region 1 with fail
        have hq0 : (w.alloc (.cells (msgA MsgD.zero none 0) 28)).heap[w.heap.size]? = some (.cells (msgA MsgD.zero none 0) 28 (0, 0)) ∧ (w.alloc (.cells (msgA MsgD.zero none 0) 28)).heap.size = w.heap.size + 1 ∧ Below w.heap.size w (w.alloc (.cells (msgA MsgD.zero none 0) 28)) := ⟨heap_alloc_last _ _, by simp, Below.allocs _ _⟩
        generalize w.alloc (.cells (msgA MsgD.zero none 0) 28) = w1 at *
        have HQ0 := Lib.hid hq0
        clear hq0
        go_upto_region 2 with (first
          | refine Rdr.wpList_build rfl 28 _ rfl [] rfl _ built_m0 ?_
          | refine wpList_store_row rfl 28 _ _ rfl w1.heap.size (msgA MsgD.zero none 0) rfl rfl 28 (msgA MsgD.zero none 0) (heap_alloc_last _ _) (sizeM _ rfl) rfl (msgA_one _ _ _) ?_)
        try simp only [Act.put, List.setIfInBounds_toArray, List.set_cons_zero, List.set_cons_succ]
        have hq1 : ((w1.alloc (.cells (msgA MsgD.zero none 0) 28)).setRow w1.heap.size (msgA MsgD.zero none 0)).heap[w1.heap.size]? = some (.cells (msgA MsgD.zero none 0) 28 (0, 0)) ∧ Below w1.heap.size w1 ((w1.alloc (.cells (msgA MsgD.zero none 0) 28)).setRow w1.heap.size (msgA MsgD.zero none 0)) ∧ ((w1.alloc (.cells (msgA MsgD.zero none 0) 28)).setRow w1.heap.size (msgA MsgD.zero none 0)).heap.size = w.heap.size + 2 := ⟨setRow_heap _ _ _ _ _ _ (heap_alloc_last _ _), below_setRow (Below.allocs _ _) (Nat.le_refl _) _, by have := HQ0.out.2.1; simp [World.setRow]; omega⟩
        generalize (w1.alloc (.cells (msgA MsgD.zero none 0) 28)).setRow w1.heap.size (msgA MsgD.zero none 0) = w2 at *
        have hs1 := HQ0.out.2.1
        rw [hs1] at hq1 ⊢
        have HQ1 : Hid (w2.heap[w.heap.size]? = some (.cells (msgA MsgD.zero none 0) 28 (0, 0)) ∧ w2.heap[w.heap.size + 1]? = some (.cells (msgA MsgD.zero none 0) 28 (0, 0)) ∧ w2.heap.size = w.heap.size + 2 ∧ Below w.heap.size w w2) := ⟨Below.keepBlock hq1.2.1 HQ0.out.1 (by omega), hq1.1, hq1.2.2, HQ0.out.2.2.trans (hq1.2.1.mono (by omega))⟩
        clear hs1 hq1 HQ0
        obtain ⟨b', o', hpb⟩ := HB.out.addr (by omega) (by omega)
        have hc' := Bs.byte (hpb ▸ (HB.out.below HQ1.out.2.2.2)) (j := 0) (by rw [HN.out]; omega)
        rw [HK0.out, Nat.add_zero] at hc'
        try rw [HKV.out] at hc'
        obtain rfl := hpb
        go_upto_region 5 with (first
          | refine Rdr.wpList_build rfl 28 _ rfl [(0, .int .i64 3)] rfl _ (built_m _) ?_
          | refine wpList_store_row rfl 28 _ _ rfl w2.heap.size (msgA ⟨3, 0, 0, 0, z16, []⟩ none 0) rfl rfl 28 (msgA MsgD.zero none 0) (heap_alloc_last _ _) (sizeM _ rfl) rfl (msgA_one _ _ _) ?_)
        try simp only [Act.put, List.setIfInBounds_toArray, List.set_cons_zero, List.set_cons_succ]
        have hq5 : ((w2.alloc (.cells (msgA MsgD.zero none 0) 28)).setRow w2.heap.size (msgA ⟨3, 0, 0, 0, z16, []⟩ none 0)).heap[w2.heap.size]? = some (.cells (msgA ⟨3, 0, 0, 0, z16, []⟩ none 0) 28 (0, 0)) ∧ Below w2.heap.size w2 ((w2.alloc (.cells (msgA MsgD.zero none 0) 28)).setRow w2.heap.size (msgA ⟨3, 0, 0, 0, z16, []⟩ none 0)) ∧ ((w2.alloc (.cells (msgA MsgD.zero none 0) 28)).setRow w2.heap.size (msgA ⟨3, 0, 0, 0, z16, []⟩ none 0)).heap.size = w.heap.size + 3 := ⟨setRow_heap _ _ _ _ _ _ (heap_alloc_last _ _), below_setRow (Below.allocs _ _) (Nat.le_refl _) _, by have := HQ1.out.2.2.1; simp [World.setRow]; omega⟩
        generalize (w2.alloc (.cells (msgA MsgD.zero none 0) 28)).setRow w2.heap.size (msgA ⟨3, 0, 0, 0, z16, []⟩ none 0) = w5 at *
        have HQ5 := Lib.hid hq5
        have hs2 := HQ1.out.2.2.1
        clear hq5 hc'
        rw [hs2]
        clear hs2
        go_upto_region 6 with fail
        have HQW : Hid (QW w ⟨3, 0, 0, 0, z16, []⟩ none 0 (w5.alloc (.cells #[.int .i64 0, .int .i64 3, .int .i64 27, .int .i64 5, .int .i64 5] 3))) := by
          have h5 := HQ5.out
          have h1 := HQ1.out
          have hal := Below.allocs w5 (.cells #[.int .i64 0, .int .i64 3, .int .i64 27, .int .i64 5, .int .i64 5] 3)
          have hlast := heap_alloc_last w5 (.cells #[.int .i64 0, .int .i64 3, .int .i64 27, .int .i64 5, .int .i64 5] 3)
          rw [h5.2.2] at hlast
          have hm := h5.1
          rw [h1.2.2.1] at hm
          exact ⟨Below.keepOld hal (Below.keepOld h5.2.1 h1.1), Below.keepOld hal (Below.keepOld h5.2.1 h1.2.1), Below.keepOld hal hm, hlast, (h1.2.2.2.trans (h5.2.1.mono h1.2.2.2.size)).trans (hal.mono (by omega)), rfl⟩
        have hs5 := HQ5.out.2.2
        generalize w5.alloc (.cells #[.int .i64 0, .int .i64 3, .int .i64 27, .int .i64 5, .int .i64 5] 3) = w6 at *
        rw [hs5]
        clear hs5 HQ5 HQ1
        obtain ⟨k0, k1, k2, k3, k20, kf, s1, s2, s3, s4⟩ := HQW.out.cells
        obtain ⟨q9, hrun, hqb⟩ := cut3 l HB.out 1 4 1 5 (by omega) (by omega) (by omega)
        have HQB := Lib.hid hqb
        clear hqb
        go_wp2_with fail
        refine (value_any _ _ _ _ _ (HQB.out _ HQW.out.low) (by omega)).mono ?_
        rintro e w' ⟨rfl, rfl⟩
        clear hrun HQB
        generalize Rdr.beN ((l.drop 1).take 4) = n1 at *
        have hqw := HQW.out.set 1 (.int .u32 (n1 : Int)) (set1 _ _ _ _) rfl
        have kfc := kf 1
        clear kf
        go_upto_region 14 with fail
        clear kfc HQW k0 k1 k2 k3 k20 s1 s2 s3 s4
        generalize w6.setCell ⟨w.heap.size + 2, 1, none⟩ (.int .u32 (n1 : Int)) = w7 at *
        have HQW := Lib.hid hqw
        clear hqw
        obtain ⟨k0, k1, k2, k3, k20, kf, s1, s2, s3, s4⟩ := HQW.out.cells
        go_wp2_with (first
          | refine wpList_load_row rfl 28 _ rfl (w.heap.size + 2) rfl 28 (msgA ⟨3, n1, 0, 0, z16, []⟩ none 0) (0, 0) _ HQW.out.r2 Tryd.underlying28 rfl (sizeM _ (msgA_size HQW.out.hint _ _)) ?_
          | refine wpList_store_row rfl 28 _ _ rfl w.heap.size (msgA ⟨3, n1, 0, 0, z16, []⟩ none 0) rfl rfl 28 (msgA MsgD.zero none 0) HQW.out.r0 (sizeM _ (msgA_size HQW.out.hint _ _)) (by rw [msgA_size HQW.out.hint]; rfl) (msgA_one _ _ _) ?_)
        have HS := Lib.hid (setRow_heap _ _ _ (msgA ⟨3, n1, 0, 0, z16, []⟩ none 0) _ _ HQW.out.r0)
        refine bodyPost_ret (results_cell_tmp2 rfl _ _ _ _ _ _ _ rfl HS.out Tryd.underlying28 rfl (sizeM _ (msgA_size HQW.out.hint _ _))) rfl ?_
        exact HFO.out _ _ _ (Sl.nil _ _) (below_setRow HQW.out.low (Nat.le_refl _) _)
    by_cases hk4 : k.toNat = 4
    · have HKV : Hid ((k.toNat : Int) = 4) := by show _ = _; omega
      have hdc := HDC.out
      rw [if_neg (by omega), if_neg (by omega), if_pos (by omega), HN.out, HKV.out] at hdc
      clear hbad hk256 hk4 HDC hk1 hk3
      by_cases hs : n0 < 5
      · have e3 : decide ((n0 : Int) < 5) = true := decide_eq_true (by omega)
        have HF := Lib.hid (HERR.out 2 (by rw [hdc, if_pos hs]))
        clear hdc hs
        go_enter Tryd.func13, Tryd.ntmps13
        go_upto_region 1 with fail
        have hq0 : (w.alloc (.cells (msgA MsgD.zero none 0) 28)).heap[w.heap.size]? = some (.cells (msgA MsgD.zero none 0) 28 (0, 0)) ∧ (w.alloc (.cells (msgA MsgD.zero none 0) 28)).heap.size = w.heap.size + 1 ∧ Below w.heap.size w (w.alloc (.cells (msgA MsgD.zero none 0) 28)) := ⟨heap_alloc_last _ _, by simp, Below.allocs _ _⟩
        generalize w.alloc (.cells (msgA MsgD.zero none 0) 28) = w1 at *
        have HQ0 := Lib.hid hq0
        clear hq0
        go_upto_region 2 with (first
          | refine Rdr.wpList_build rfl 28 _ rfl [] rfl _ built_m0 ?_
          | refine wpList_store_row rfl 28 _ _ rfl w1.heap.size (msgA MsgD.zero none 0) rfl rfl 28 (msgA MsgD.zero none 0) (heap_alloc_last _ _) (sizeM _ rfl) rfl (msgA_one _ _ _) ?_)
        try simp only [Act.put, List.setIfInBounds_toArray, List.set_cons_zero, List.set_cons_succ]
        have hq1 : ((w1.alloc (.cells (msgA MsgD.zero none 0) 28)).setRow w1.heap.size (msgA MsgD.zero none 0)).heap[w1.heap.size]? = some (.cells (msgA MsgD.zero none 0) 28 (0, 0)) ∧ Below w1.heap.size w1 ((w1.alloc (.cells (msgA MsgD.zero none 0) 28)).setRow w1.heap.size (msgA MsgD.zero none 0)) ∧ ((w1.alloc (.cells (msgA MsgD.zero none 0) 28)).setRow w1.heap.size (msgA MsgD.zero none 0)).heap.size = w.heap.size + 2 := ⟨setRow_heap _ _ _ _ _ _ (heap_alloc_last _ _), below_setRow (Below.allocs _ _) (Nat.le_refl _) _, by have := HQ0.out.2.1; simp [World.setRow]; omega⟩
        generalize (w1.alloc (.cells (msgA MsgD.zero none 0) 28)).setRow w1.heap.size (msgA MsgD.zero none 0) = w2 at *
        have hs1 := HQ0.out.2.1
        rw [hs1] at hq1 ⊢
        have HQ1 : Hid (w2.heap[w.heap.size]? = some (.cells (msgA MsgD.zero none 0) 28 (0, 0)) ∧ w2.heap[w.heap.size + 1]? = some (.cells (msgA MsgD.zero none 0) 28 (0, 0)) ∧ w2.heap.size = w.heap.size + 2 ∧ Below w.heap.size w w2) := ⟨Below.keepBlock hq1.2.1 HQ0.out.1 (by omega), hq1.1, hq1.2.2, HQ0.out.2.2.trans (hq1.2.1.mono (by omega))⟩
        clear hs1 hq1 HQ0
        obtain ⟨b', o', hpb⟩ := HB.out.addr (by omega) (by omega)
        have hc' := Bs.byte (hpb ▸ (HB.out.below HQ1.out.2.2.2)) (j := 0) (by rw [HN.out]; omega)
        rw [HK0.out, Nat.add_zero] at hc'
        try rw [HKV.out] at hc'
        obtain rfl := hpb
        go_upto_region 5 with (first
          | refine Rdr.wpList_build rfl 28 _ rfl [(0, .int .i64 4)] rfl _ (built_m _) ?_
          | refine wpList_store_row rfl 28 _ _ rfl w2.heap.size (msgA ⟨4, 0, 0, 0, z16, []⟩ none 0) rfl rfl 28 (msgA MsgD.zero none 0) (heap_alloc_last _ _) (sizeM _ rfl) rfl (msgA_one _ _ _) ?_)
        try simp only [Act.put, List.setIfInBounds_toArray, List.set_cons_zero, List.set_cons_succ]
        have hq5 : ((w2.alloc (.cells (msgA MsgD.zero none 0) 28)).setRow w2.heap.size (msgA ⟨4, 0, 0, 0, z16, []⟩ none 0)).heap[w2.heap.size]? = some (.cells (msgA ⟨4, 0, 0, 0, z16, []⟩ none 0) 28 (0, 0)) ∧ Below w2.heap.size w2 ((w2.alloc (.cells (msgA MsgD.zero none 0) 28)).setRow w2.heap.size (msgA ⟨4, 0, 0, 0, z16, []⟩ none 0)) ∧ ((w2.alloc (.cells (msgA MsgD.zero none 0) 28)).setRow w2.heap.size (msgA ⟨4, 0, 0, 0, z16, []⟩ none 0)).heap.size = w.heap.size + 3 := ⟨setRow_heap _ _ _ _ _ _ (heap_alloc_last _ _), below_setRow (Below.allocs _ _) (Nat.le_refl _) _, by have := HQ1.out.2.2.1; simp [World.setRow]; omega⟩
        generalize (w2.alloc (.cells (msgA MsgD.zero none 0) 28)).setRow w2.heap.size (msgA ⟨4, 0, 0, 0, z16, []⟩ none 0) = w5 at *
        have HQ5 := Lib.hid hq5
        have hs2 := HQ1.out.2.2.1
        clear hq5 hc'
        rw [hs2]
        clear hs2
        go_upto_region 6 with fail
        have HQW : Hid (QW w ⟨4, 0, 0, 0, z16, []⟩ none 0 (w5.alloc (.cells #[.int .i64 0, .int .i64 3, .int .i64 27, .int .i64 5, .int .i64 5] 3))) := by
          have h5 := HQ5.out
          have h1 := HQ1.out
          have hal := Below.allocs w5 (.cells #[.int .i64 0, .int .i64 3, .int .i64 27, .int .i64 5, .int .i64 5] 3)
          have hlast := heap_alloc_last w5 (.cells #[.int .i64 0, .int .i64 3, .int .i64 27, .int .i64 5, .int .i64 5] 3)
          rw [h5.2.2] at hlast
          have hm := h5.1
          rw [h1.2.2.1] at hm
          exact ⟨Below.keepOld hal (Below.keepOld h5.2.1 h1.1), Below.keepOld hal (Below.keepOld h5.2.1 h1.2.1), Below.keepOld hal hm, hlast, (h1.2.2.2.trans (h5.2.1.mono h1.2.2.2.size)).trans (hal.mono (by omega)), rfl⟩
        have hs5 := HQ5.out.2.2
        generalize w5.alloc (.cells #[.int .i64 0, .int .i64 3, .int .i64 27, .int .i64 5, .int .i64 5] 3) = w6 at *
        rw [hs5]
        clear hs5 HQ5 HQ1
        obtain ⟨k0, k1, k2, k3, k20, kf, s1, s2, s3, s4⟩ := HQW.out.cells
        go_wp2_with (first
          | refine wpList_load_row rfl 28 _ rfl (w.heap.size + 1) rfl 28 (msgA MsgD.zero none 0) (0, 0) _ (HQW.out.r1) Tryd.underlying28 rfl (sizeM _ rfl) ?_
          | refine wpList_store_row rfl 28 _ _ rfl w.heap.size (msgA MsgD.zero none 0) rfl rfl 28 (msgA MsgD.zero none 0) (HQW.out.r0) (sizeM _ rfl) rfl (msgA_one _ _ _) ?_)
        have HS := Lib.hid (setRow_heap _ _ _ (msgA MsgD.zero none 0) _ _ (HQW.out.r0))
        refine bodyPost_ret (results_cell_tmp2 rfl _ _ _ _ _ _ _ rfl HS.out Tryd.underlying28 rfl (sizeM _ rfl)) rfl ?_
        exact HF.out _ (below_setRow (HQW.out.low) (Nat.le_refl _) _)
      have e3 : decide ((n0 : Int) < 5) = false := decide_eq_false (by omega)
      rw [if_neg hs] at hdc
      by_cases hg : 5 < n0
      · have e4 : decide ((5 : Int) < (n0 : Int)) = true := decide_eq_true (by omega)
        have HF := Lib.hid (HERR.out 3 (by rw [hdc, if_pos hg]))
        clear hdc
        go_enter Tryd.func13, Tryd.ntmps13
        go_upto_region 1 with fail
        have hq0 : (w.alloc (.cells (msgA MsgD.zero none 0) 28)).heap[w.heap.size]? = some (.cells (msgA MsgD.zero none 0) 28 (0, 0)) ∧ (w.alloc (.cells (msgA MsgD.zero none 0) 28)).heap.size = w.heap.size + 1 ∧ Below w.heap.size w (w.alloc (.cells (msgA MsgD.zero none 0) 28)) := ⟨heap_alloc_last _ _, by simp, Below.allocs _ _⟩
        generalize w.alloc (.cells (msgA MsgD.zero none 0) 28) = w1 at *
        have HQ0 := Lib.hid hq0
        clear hq0
        go_upto_region 2 with (first
          | refine Rdr.wpList_build rfl 28 _ rfl [] rfl _ built_m0 ?_
          | refine wpList_store_row rfl 28 _ _ rfl w1.heap.size (msgA MsgD.zero none 0) rfl rfl 28 (msgA MsgD.zero none 0) (heap_alloc_last _ _) (sizeM _ rfl) rfl (msgA_one _ _ _) ?_)
        try simp only [Act.put, List.setIfInBounds_toArray, List.set_cons_zero, List.set_cons_succ]
        have hq1 : ((w1.alloc (.cells (msgA MsgD.zero none 0) 28)).setRow w1.heap.size (msgA MsgD.zero none 0)).heap[w1.heap.size]? = some (.cells (msgA MsgD.zero none 0) 28 (0, 0)) ∧ Below w1.heap.size w1 ((w1.alloc (.cells (msgA MsgD.zero none 0) 28)).setRow w1.heap.size (msgA MsgD.zero none 0)) ∧ ((w1.alloc (.cells (msgA MsgD.zero none 0) 28)).setRow w1.heap.size (msgA MsgD.zero none 0)).heap.size = w.heap.size + 2 := ⟨setRow_heap _ _ _ _ _ _ (heap_alloc_last _ _), below_setRow (Below.allocs _ _) (Nat.le_refl _) _, by have := HQ0.out.2.1; simp [World.setRow]; omega⟩
        generalize (w1.alloc (.cells (msgA MsgD.zero none 0) 28)).setRow w1.heap.size (msgA MsgD.zero none 0) = w2 at *
        have hs1 := HQ0.out.2.1
        rw [hs1] at hq1 ⊢
        have HQ1 : Hid (w2.heap[w.heap.size]? = some (.cells (msgA MsgD.zero none 0) 28 (0, 0)) ∧ w2.heap[w.heap.size + 1]? = some (.cells (msgA MsgD.zero none 0) 28 (0, 0)) ∧ w2.heap.size = w.heap.size + 2 ∧ Below w.heap.size w w2) := ⟨Below.keepBlock hq1.2.1 HQ0.out.1 (by omega), hq1.1, hq1.2.2, HQ0.out.2.2.trans (hq1.2.1.mono (by omega))⟩
        clear hs1 hq1 HQ0
        obtain ⟨b', o', hpb⟩ := HB.out.addr (by omega) (by omega)
        have hc' := Bs.byte (hpb ▸ (HB.out.below HQ1.out.2.2.2)) (j := 0) (by rw [HN.out]; omega)
        rw [HK0.out, Nat.add_zero] at hc'
        try rw [HKV.out] at hc'
        obtain rfl := hpb
        go_upto_region 5 with (first
          | refine Rdr.wpList_build rfl 28 _ rfl [(0, .int .i64 4)] rfl _ (built_m _) ?_
          | refine wpList_store_row rfl 28 _ _ rfl w2.heap.size (msgA ⟨4, 0, 0, 0, z16, []⟩ none 0) rfl rfl 28 (msgA MsgD.zero none 0) (heap_alloc_last _ _) (sizeM _ rfl) rfl (msgA_one _ _ _) ?_)
        try simp only [Act.put, List.setIfInBounds_toArray, List.set_cons_zero, List.set_cons_succ]
        have hq5 : ((w2.alloc (.cells (msgA MsgD.zero none 0) 28)).setRow w2.heap.size (msgA ⟨4, 0, 0, 0, z16, []⟩ none 0)).heap[w2.heap.size]? = some (.cells (msgA ⟨4, 0, 0, 0, z16, []⟩ none 0) 28 (0, 0)) ∧ Below w2.heap.size w2 ((w2.alloc (.cells (msgA MsgD.zero none 0) 28)).setRow w2.heap.size (msgA ⟨4, 0, 0, 0, z16, []⟩ none 0)) ∧ ((w2.alloc (.cells (msgA MsgD.zero none 0) 28)).setRow w2.heap.size (msgA ⟨4, 0, 0, 0, z16, []⟩ none 0)).heap.size = w.heap.size + 3 := ⟨setRow_heap _ _ _ _ _ _ (heap_alloc_last _ _), below_setRow (Below.allocs _ _) (Nat.le_refl _) _, by have := HQ1.out.2.2.1; simp [World.setRow]; omega⟩
        generalize (w2.alloc (.cells (msgA MsgD.zero none 0) 28)).setRow w2.heap.size (msgA ⟨4, 0, 0, 0, z16, []⟩ none 0) = w5 at *
        have HQ5 := Lib.hid hq5
        have hs2 := HQ1.out.2.2.1
        clear hq5 hc'
        rw [hs2]
        clear hs2
        go_upto_region 6 with fail
        have HQW : Hid (QW w ⟨4, 0, 0, 0, z16, []⟩ none 0 (w5.alloc (.cells #[.int .i64 0, .int .i64 3, .int .i64 27, .int .i64 5, .int .i64 5] 3))) := by
          have h5 := HQ5.out
          have h1 := HQ1.out
          have hal := Below.allocs w5 (.cells #[.int .i64 0, .int .i64 3, .int .i64 27, .int .i64 5, .int .i64 5] 3)
          have hlast := heap_alloc_last w5 (.cells #[.int .i64 0, .int .i64 3, .int .i64 27, .int .i64 5, .int .i64 5] 3)
          rw [h5.2.2] at hlast
          have hm := h5.1
          rw [h1.2.2.1] at hm
          exact ⟨Below.keepOld hal (Below.keepOld h5.2.1 h1.1), Below.keepOld hal (Below.keepOld h5.2.1 h1.2.1), Below.keepOld hal hm, hlast, (h1.2.2.2.trans (h5.2.1.mono h1.2.2.2.size)).trans (hal.mono (by omega)), rfl⟩
        have hs5 := HQ5.out.2.2
        generalize w5.alloc (.cells #[.int .i64 0, .int .i64 3, .int .i64 27, .int .i64 5, .int .i64 5] 3) = w6 at *
        rw [hs5]
        clear hs5 HQ5 HQ1
        obtain ⟨k0, k1, k2, k3, k20, kf, s1, s2, s3, s4⟩ := HQW.out.cells
        obtain ⟨q9, hrun, hqb⟩ := cut3 l HB.out 1 4 1 5 (by omega) (by omega) (by omega)
        have HQB := Lib.hid hqb
        clear hqb
        go_wp2_with fail
        refine (value_any _ _ _ _ _ (HQB.out _ HQW.out.low) (by omega)).mono ?_
        rintro e w' ⟨rfl, rfl⟩
        clear hrun HQB
        generalize Rdr.beN ((l.drop 1).take 4) = n1 at *
        have hqw := HQW.out.set 1 (.int .u32 (n1 : Int)) (set1 _ _ _ _) rfl
        have kfc := kf 1
        clear kf
        go_upto_region 14 with fail
        clear kfc HQW k0 k1 k2 k3 k20 s1 s2 s3 s4
        generalize w6.setCell ⟨w.heap.size + 2, 1, none⟩ (.int .u32 (n1 : Int)) = w7 at *
        have HQW := Lib.hid hqw
        clear hqw
        obtain ⟨k0, k1, k2, k3, k20, kf, s1, s2, s3, s4⟩ := HQW.out.cells
        go_wp2_with (first
          | refine wpList_load_row rfl 28 _ rfl (w.heap.size + 1) rfl 28 (msgA MsgD.zero none 0) (0, 0) _ (HQW.out.r1) Tryd.underlying28 rfl (sizeM _ rfl) ?_
          | refine wpList_store_row rfl 28 _ _ rfl w.heap.size (msgA MsgD.zero none 0) rfl rfl 28 (msgA MsgD.zero none 0) (HQW.out.r0) (sizeM _ rfl) rfl (msgA_one _ _ _) ?_)
        have HS := Lib.hid (setRow_heap _ _ _ (msgA MsgD.zero none 0) _ _ (HQW.out.r0))
        refine bodyPost_ret (results_cell_tmp2 rfl _ _ _ _ _ _ _ rfl HS.out Tryd.underlying28 rfl (sizeM _ rfl)) rfl ?_
        exact HF.out _ (below_setRow (HQW.out.low) (Nat.le_refl _) _)
      · have e4 : decide ((5 : Int) < (n0 : Int)) = false := decide_eq_false (by omega)
        rw [if_neg hg] at hdc
        have HFO := Lib.hid (HOKW.out _ hdc)
        clear hdc
        go_enter Tryd.func13, Tryd.ntmps13
        go_upto_region 1 with fail
        have hq0 : (w.alloc (.cells (msgA MsgD.zero none 0) 28)).heap[w.heap.size]? = some (.cells (msgA MsgD.zero none 0) 28 (0, 0)) ∧ (w.alloc (.cells (msgA MsgD.zero none 0) 28)).heap.size = w.heap.size + 1 ∧ Below w.heap.size w (w.alloc (.cells (msgA MsgD.zero none 0) 28)) := ⟨heap_alloc_last _ _, by simp, Below.allocs _ _⟩
        generalize w.alloc (.cells (msgA MsgD.zero none 0) 28) = w1 at *
        have HQ0 := Lib.hid hq0
        clear hq0
        go_upto_region 2 with (first
          | refine Rdr.wpList_build rfl 28 _ rfl [] rfl _ built_m0 ?_
          | refine wpList_store_row rfl 28 _ _ rfl w1.heap.size (msgA MsgD.zero none 0) rfl rfl 28 (msgA MsgD.zero none 0) (heap_alloc_last _ _) (sizeM _ rfl) rfl (msgA_one _ _ _) ?_)
        try simp only [Act.put, List.setIfInBounds_toArray, List.set_cons_zero, List.set_cons_succ]
        have hq1 : ((w1.alloc (.cells (msgA MsgD.zero none 0) 28)).setRow w1.heap.size (msgA MsgD.zero none 0)).heap[w1.heap.size]? = some (.cells (msgA MsgD.zero none 0) 28 (0, 0)) ∧ Below w1.heap.size w1 ((w1.alloc (.cells (msgA MsgD.zero none 0) 28)).setRow w1.heap.size (msgA MsgD.zero none 0)) ∧ ((w1.alloc (.cells (msgA MsgD.zero none 0) 28)).setRow w1.heap.size (msgA MsgD.zero none 0)).heap.size = w.heap.size + 2 := ⟨setRow_heap _ _ _ _ _ _ (heap_alloc_last _ _), below_setRow (Below.allocs _ _) (Nat.le_refl _) _, by have := HQ0.out.2.1; simp [World.setRow]; omega⟩
        generalize (w1.alloc (.cells (msgA MsgD.zero none 0) 28)).setRow w1.heap.size (msgA MsgD.zero none 0) = w2 at *
        have hs1 := HQ0.out.2.1
        rw [hs1] at hq1 ⊢
        have HQ1 : Hid (w2.heap[w.heap.size]? = some (.cells (msgA MsgD.zero none 0) 28 (0, 0)) ∧ w2.heap[w.heap.size + 1]? = some (.cells (msgA MsgD.zero none 0) 28 (0, 0)) ∧ w2.heap.size = w.heap.size + 2 ∧ Below w.heap.size w w2) := ⟨Below.keepBlock hq1.2.1 HQ0.out.1 (by omega), hq1.1, hq1.2.2, HQ0.out.2.2.trans (hq1.2.1.mono (by omega))⟩
        clear hs1 hq1 HQ0
        obtain ⟨b', o', hpb⟩ := HB.out.addr (by omega) (by omega)
        have hc' := Bs.byte (hpb ▸ (HB.out.below HQ1.out.2.2.2)) (j := 0) (by rw [HN.out]; omega)
        rw [HK0.out, Nat.add_zero] at hc'
        try rw [HKV.out] at hc'
        obtain rfl := hpb
        go_upto_region 5 with (first
          | refine Rdr.wpList_build rfl 28 _ rfl [(0, .int .i64 4)] rfl _ (built_m _) ?_
          | refine wpList_store_row rfl 28 _ _ rfl w2.heap.size (msgA ⟨4, 0, 0, 0, z16, []⟩ none 0) rfl rfl 28 (msgA MsgD.zero none 0) (heap_alloc_last _ _) (sizeM _ rfl) rfl (msgA_one _ _ _) ?_)
        try simp only [Act.put, List.setIfInBounds_toArray, List.set_cons_zero, List.set_cons_succ]
        have hq5 : ((w2.alloc (.cells (msgA MsgD.zero none 0) 28)).setRow w2.heap.size (msgA ⟨4, 0, 0, 0, z16, []⟩ none 0)).heap[w2.heap.size]? = some (.cells (msgA ⟨4, 0, 0, 0, z16, []⟩ none 0) 28 (0, 0)) ∧ Below w2.heap.size w2 ((w2.alloc (.cells (msgA MsgD.zero none 0) 28)).setRow w2.heap.size (msgA ⟨4, 0, 0, 0, z16, []⟩ none 0)) ∧ ((w2.alloc (.cells (msgA MsgD.zero none 0) 28)).setRow w2.heap.size (msgA ⟨4, 0, 0, 0, z16, []⟩ none 0)).heap.size = w.heap.size + 3 := ⟨setRow_heap _ _ _ _ _ _ (heap_alloc_last _ _), below_setRow (Below.allocs _ _) (Nat.le_refl _) _, by have := HQ1.out.2.2.1; simp [World.setRow]; omega⟩
        generalize (w2.alloc (.cells (msgA MsgD.zero none 0) 28)).setRow w2.heap.size (msgA ⟨4, 0, 0, 0, z16, []⟩ none 0) = w5 at *
        have HQ5 := Lib.hid hq5
        have hs2 := HQ1.out.2.2.1
        clear hq5 hc'
        rw [hs2]
        clear hs2
        go_upto_region 6 with fail
        have HQW : Hid (QW w ⟨4, 0, 0, 0, z16, []⟩ none 0 (w5.alloc (.cells #[.int .i64 0, .int .i64 3, .int .i64 27, .int .i64 5, .int .i64 5] 3))) := by
          have h5 := HQ5.out
          have h1 := HQ1.out
          have hal := Below.allocs w5 (.cells #[.int .i64 0, .int .i64 3, .int .i64 27, .int .i64 5, .int .i64 5] 3)
          have hlast := heap_alloc_last w5 (.cells #[.int .i64 0, .int .i64 3, .int .i64 27, .int .i64 5, .int .i64 5] 3)
          rw [h5.2.2] at hlast
          have hm := h5.1
          rw [h1.2.2.1] at hm
          exact ⟨Below.keepOld hal (Below.keepOld h5.2.1 h1.1), Below.keepOld hal (Below.keepOld h5.2.1 h1.2.1), Below.keepOld hal hm, hlast, (h1.2.2.2.trans (h5.2.1.mono h1.2.2.2.size)).trans (hal.mono (by omega)), rfl⟩
        have hs5 := HQ5.out.2.2
        generalize w5.alloc (.cells #[.int .i64 0, .int .i64 3, .int .i64 27, .int .i64 5, .int .i64 5] 3) = w6 at *
        rw [hs5]
        clear hs5 HQ5 HQ1
        obtain ⟨k0, k1, k2, k3, k20, kf, s1, s2, s3, s4⟩ := HQW.out.cells
        obtain ⟨q9, hrun, hqb⟩ := cut3 l HB.out 1 4 1 5 (by omega) (by omega) (by omega)
        have HQB := Lib.hid hqb
        clear hqb
        go_wp2_with fail
        refine (value_any _ _ _ _ _ (HQB.out _ HQW.out.low) (by omega)).mono ?_
        rintro e w' ⟨rfl, rfl⟩
        clear hrun HQB
        generalize Rdr.beN ((l.drop 1).take 4) = n1 at *
        have hqw := HQW.out.set 1 (.int .u32 (n1 : Int)) (set1 _ _ _ _) rfl
        have kfc := kf 1
        clear kf
        go_upto_region 14 with fail
        clear kfc HQW k0 k1 k2 k3 k20 s1 s2 s3 s4
        generalize w6.setCell ⟨w.heap.size + 2, 1, none⟩ (.int .u32 (n1 : Int)) = w7 at *
        have HQW := Lib.hid hqw
        clear hqw
        obtain ⟨k0, k1, k2, k3, k20, kf, s1, s2, s3, s4⟩ := HQW.out.cells
        go_wp2_with (first
          | refine wpList_load_row rfl 28 _ rfl (w.heap.size + 2) rfl 28 (msgA ⟨4, n1, 0, 0, z16, []⟩ none 0) (0, 0) _ HQW.out.r2 Tryd.underlying28 rfl (sizeM _ (msgA_size HQW.out.hint _ _)) ?_
          | refine wpList_store_row rfl 28 _ _ rfl w.heap.size (msgA ⟨4, n1, 0, 0, z16, []⟩ none 0) rfl rfl 28 (msgA MsgD.zero none 0) HQW.out.r0 (sizeM _ (msgA_size HQW.out.hint _ _)) (by rw [msgA_size HQW.out.hint]; rfl) (msgA_one _ _ _) ?_)
        have HS := Lib.hid (setRow_heap _ _ _ (msgA ⟨4, n1, 0, 0, z16, []⟩ none 0) _ _ HQW.out.r0)
        refine bodyPost_ret (results_cell_tmp2 rfl _ _ _ _ _ _ _ rfl HS.out Tryd.underlying28 rfl (sizeM _ (msgA_size HQW.out.hint _ _))) rfl ?_
        exact HFO.out _ _ _ (Sl.nil _ _) (below_setRow HQW.out.low (Nat.le_refl _) _)
    have hk2 : k.toNat = 2 := by omega
    exact rdecode_up p0 n0 c0 l w HB.out hn k tl HL.out hk2
end Go.Proofs.YtmjdpfmofbbknaaDoor.Msg
