/- MESSAGES: the reference's Right. Conditions: none. -/
import Derived.Test.YtmjdpfmofbbknaaDoorMsgA
namespace Go.Proofs.YtmjdpfmofbbknaaDoor.Msg
open Go.RowKit Go.Mir Go.Mir.Parts Wr Cod

theorem zeroH (w : World) : (zeroValue 25).run Tryd.prog w = .ok (.agg (idA z16)) w := by kernel_rfl
theorem built_h0 : Tryd.prog.built 25 [] = some (idA z16) := by kernel_rfl
set_option maxRecDepth 100000 in
set_option maxHeartbeats 6400000 in
theorem rright_any (m : MsgD) (p : Option Addr) (c : Nat) (w : World) (hM : MsgAt w m p c) :
    Calls Tryd.prog 10 #[.agg (msgA m p c)] w fun e w' => e = .returned (.bool (decide m.right)) ∧ Below w.heap.size w w' := by
  have HWF := Lib.hid hM.wf
  have hble := hM.blob.le
  have hbmax := hM.blob.max
  have hqh := fun w => eqH w m.hint z16 hM.wf.hint rfl
  have hz := zeroH
  clear hM
  by_cases hQ : 65535 < m.quo
  · have d1 : decide ((65535 : Int) < (m.quo : Int)) = true := decide_eq_true (by omega)
    have d1' : decide (65535 < m.quo) = true := decide_eq_true hQ
    have HRES : Hid (decide m.right = false) := decide_eq_false (by rintro (h | h | h) <;> omega)
    clear hQ
    go_enter Tryd.func10, Tryd.ntmps10
    go_upto_region 1 with fail
    generalize hw1 : w.alloc (.cells (msgA m p c) 28) = w1 at *
    have HR0 : Hid (w1.heap[w.heap.size]? = some (.cells (msgA m p c) 28 (0, 0))) := by rw [← hw1]; exact heap_alloc_last _ _
    have HB1 : Hid (Below w.heap.size w w1) := by rw [← hw1]; exact Below.allocs _ _
    clear hw1
    obtain ⟨a0, a1, a2, a3, a4, a5⟩ := msg_cells HWF.out.hint HR0.out
    clear a5
    go_wp2_with fail
    go_ret
    exact ⟨bret HRES.out.symm, HB1.out⟩
  have d1 : decide ((65535 : Int) < (m.quo : Int)) = false := decide_eq_false (by omega)
  have d1' : decide (65535 < m.quo) = false := decide_eq_false hQ
  by_cases hL : 1000 < m.blob.length
  · have d2 : decide ((1000 : Int) < (m.blob.length : Int)) = true := decide_eq_true (by omega)
    have d2' : decide (1000 < m.blob.length) = true := decide_eq_true hL
    have HRES : Hid (decide m.right = false) := decide_eq_false (by
      rintro (⟨_, _, _, _, h, _⟩ | ⟨_, _, h⟩ | ⟨_, _, _, _, h⟩)
      · rw [h] at hL; simp at hL
      · omega
      · rw [h] at hL; simp at hL)
    clear hQ hL
    go_enter Tryd.func10, Tryd.ntmps10
    go_upto_region 1 with fail
    generalize hw1 : w.alloc (.cells (msgA m p c) 28) = w1 at *
    have HR0 : Hid (w1.heap[w.heap.size]? = some (.cells (msgA m p c) 28 (0, 0))) := by rw [← hw1]; exact heap_alloc_last _ _
    have HB1 : Hid (Below w.heap.size w w1) := by rw [← hw1]; exact Below.allocs _ _
    clear hw1
    obtain ⟨a0, a1, a2, a3, a4, a5⟩ := msg_cells HWF.out.hint HR0.out
    clear a5
    go_wp2_with fail
    go_ret
    exact ⟨bret HRES.out.symm, HB1.out⟩
  have d2 : decide ((1000 : Int) < (m.blob.length : Int)) = false := decide_eq_false (by omega)
  have d2' : decide (1000 < m.blob.length) = false := decide_eq_false hL
  obtain ⟨BB, hBB⟩ : ∃ B, ((m.blob.length : Int) == 0) = B := ⟨_, rfl⟩
  have hbn : m.blob = [] ↔ BB = true := by
    rw [← hBB, beq_iff_eq, ← List.length_eq_zero_iff]
    omega
  have ks : m.ses = 0 ↔ ((m.ses : Int) == 0) = true := by rw [beq_iff_eq]; omega
  have kq : m.seq = 0 ↔ ((m.seq : Int) == 0) = true := by rw [beq_iff_eq]; omega
  have ko : m.quo = 0 ↔ ((m.quo : Int) == 0) = true := by rw [beq_iff_eq]; omega
  have kh : m.hint = z16 ↔ (m.hint == z16) = true := by rw [beq_iff_eq]
  by_cases h1 : m.kind = 1
  · have t1 : (m.kind == 1) = true := by rw [beq_iff_eq]; exact h1
    have HRES0 : Hid (decide m.right = (((m.ses : Int) == 0) && (((m.seq : Int) == 0) && ((m.hint == z16) && BB)))) := by
      show _ = _
      rw [Bool.eq_iff_iff]
      simp only [decide_eq_true_eq, Bool.and_eq_true]
      rw [← ks, ← kq, ← kh, ← hbn]
      unfold MsgD.right
      constructor
      · rintro (⟨_, h2, h3, h4, h5, h6⟩ | ⟨h, _⟩ | ⟨h, _⟩)
        · exact ⟨h2, h3, h4, h5⟩
        · omega
        · omega
      · rintro ⟨h2, h3, h4, h5⟩
        exact .inl ⟨h1, h2, h3, h4, h5, by omega⟩
    clear h1 hQ hL hbn ks kq ko kh
    cases e1 : ((m.ses : Int) == 0) with
    | false =>
      have HRES : Hid (decide m.right = false) := by show _ = _; rw [HRES0.out, e1]; rfl
      go_enter Tryd.func10, Tryd.ntmps10
      go_upto_region 1 with fail
      generalize hw1 : w.alloc (.cells (msgA m p c) 28) = w1 at *
      have HR0 : Hid (w1.heap[w.heap.size]? = some (.cells (msgA m p c) 28 (0, 0))) := by rw [← hw1]; exact heap_alloc_last _ _
      have HB1 : Hid (Below w.heap.size w w1) := by rw [← hw1]; exact Below.allocs _ _
      clear hw1
      obtain ⟨a0, a1, a2, a3, a4, a5⟩ := msg_cells HWF.out.hint HR0.out
      clear a5
      go_upto_region 4 with (first
        | refine Rdr.wpList_build rfl 25 _ rfl [] rfl _ built_h0 ?_
        | refine wpList_store_row rfl 25 _ _ rfl w1.heap.size (idA z16) rfl rfl 25 (idA z16) (heap_alloc_last _ _) (sizeH _ rfl) rfl (idA_one _) ?_)
      try simp only [Act.put]
      have hr2 : ((w1.alloc (.cells (idA z16) 25)).setRow w1.heap.size (idA z16)).heap[w1.heap.size]? = some (.cells (idA z16) 25 (0, 0)) := setRow_heap _ _ _ _ _ _ (heap_alloc_last _ _)
      have hb2 : Below w1.heap.size w1 ((w1.alloc (.cells (idA z16) 25)).setRow w1.heap.size (idA z16)) := below_setRow (Below.allocs _ _) (Nat.le_refl _) _
      generalize (w1.alloc (.cells (idA z16) 25)).setRow w1.heap.size (idA z16) = w2 at *
      have HZ2 := Lib.hid hr2
      have hr0 := Below.keepOld hb2 HR0.out
      have HB2 := Lib.hid (HB1.out.trans (hb2.mono HB1.out.size))
      clear a0 a1 a2 a3 a4 hr2 hb2 HR0
      obtain ⟨a0, a1, a2, a3, a4, a5⟩ := msg_cells HWF.out.hint hr0
      have HRG := Lib.hid a5
      clear a5 hr0
      go_wp2_with (first
        | ((with_reducible refine wpAt 28 ?_); refine wpList_unguard (by rfl) ?_; refine wpList_load_mid rfl 25 _ rfl w.heap.size 4 rfl (idA m.hint).toList _ HRG.out Tryd.underlying25 rfl (by rw [Array.length_toList]; exact sizeH _ HWF.out.hint) ?_)
        | ((with_reducible refine wpAt 56 ?_); refine wpList_unguard (by rfl) ?_; refine wpList_load_mid rfl 25 _ rfl w.heap.size 4 rfl (idA m.hint).toList _ HRG.out Tryd.underlying25 rfl (by rw [Array.length_toList]; exact sizeH _ HWF.out.hint) ?_)
        | ((with_reducible refine wpAt 29 ?_); refine wpList_unguard (by rfl) ?_; refine wpList_load_row rfl 25 _ rfl w1.heap.size rfl 25 (idA z16) (0, 0) _ HZ2.out Tryd.underlying25 rfl (sizeH _ rfl) ?_)
        | ((with_reducible refine wpAt 57 ?_); refine wpList_unguard (by rfl) ?_; refine wpList_load_row rfl 25 _ rfl w1.heap.size rfl 25 (idA z16) (0, 0) _ HZ2.out Tryd.underlying25 rfl (sizeH _ rfl) ?_))
      go_ret
      exact ⟨bret (by first | exact HRES.out.symm | (rw [HRES.out]; simp; done)), HB2.out⟩
    | true =>
      cases e2 : ((m.seq : Int) == 0) with
      | false =>
        have HRES : Hid (decide m.right = false) := by show _ = _; rw [HRES0.out, e1, e2]; rfl
        go_enter Tryd.func10, Tryd.ntmps10
        go_upto_region 1 with fail
        generalize hw1 : w.alloc (.cells (msgA m p c) 28) = w1 at *
        have HR0 : Hid (w1.heap[w.heap.size]? = some (.cells (msgA m p c) 28 (0, 0))) := by rw [← hw1]; exact heap_alloc_last _ _
        have HB1 : Hid (Below w.heap.size w w1) := by rw [← hw1]; exact Below.allocs _ _
        clear hw1
        obtain ⟨a0, a1, a2, a3, a4, a5⟩ := msg_cells HWF.out.hint HR0.out
        clear a5
        go_upto_region 4 with (first
          | refine Rdr.wpList_build rfl 25 _ rfl [] rfl _ built_h0 ?_
          | refine wpList_store_row rfl 25 _ _ rfl w1.heap.size (idA z16) rfl rfl 25 (idA z16) (heap_alloc_last _ _) (sizeH _ rfl) rfl (idA_one _) ?_)
        try simp only [Act.put]
        have hr2 : ((w1.alloc (.cells (idA z16) 25)).setRow w1.heap.size (idA z16)).heap[w1.heap.size]? = some (.cells (idA z16) 25 (0, 0)) := setRow_heap _ _ _ _ _ _ (heap_alloc_last _ _)
        have hb2 : Below w1.heap.size w1 ((w1.alloc (.cells (idA z16) 25)).setRow w1.heap.size (idA z16)) := below_setRow (Below.allocs _ _) (Nat.le_refl _) _
        generalize (w1.alloc (.cells (idA z16) 25)).setRow w1.heap.size (idA z16) = w2 at *
        have HZ2 := Lib.hid hr2
        have hr0 := Below.keepOld hb2 HR0.out
        have HB2 := Lib.hid (HB1.out.trans (hb2.mono HB1.out.size))
        clear a0 a1 a2 a3 a4 hr2 hb2 HR0
        obtain ⟨a0, a1, a2, a3, a4, a5⟩ := msg_cells HWF.out.hint hr0
        have HRG := Lib.hid a5
        clear a5 hr0
        go_wp2_with (first
          | ((with_reducible refine wpAt 28 ?_); refine wpList_unguard (by rfl) ?_; refine wpList_load_mid rfl 25 _ rfl w.heap.size 4 rfl (idA m.hint).toList _ HRG.out Tryd.underlying25 rfl (by rw [Array.length_toList]; exact sizeH _ HWF.out.hint) ?_)
          | ((with_reducible refine wpAt 56 ?_); refine wpList_unguard (by rfl) ?_; refine wpList_load_mid rfl 25 _ rfl w.heap.size 4 rfl (idA m.hint).toList _ HRG.out Tryd.underlying25 rfl (by rw [Array.length_toList]; exact sizeH _ HWF.out.hint) ?_)
          | ((with_reducible refine wpAt 29 ?_); refine wpList_unguard (by rfl) ?_; refine wpList_load_row rfl 25 _ rfl w1.heap.size rfl 25 (idA z16) (0, 0) _ HZ2.out Tryd.underlying25 rfl (sizeH _ rfl) ?_)
          | ((with_reducible refine wpAt 57 ?_); refine wpList_unguard (by rfl) ?_; refine wpList_load_row rfl 25 _ rfl w1.heap.size rfl 25 (idA z16) (0, 0) _ HZ2.out Tryd.underlying25 rfl (sizeH _ rfl) ?_))
        go_ret
        exact ⟨bret (by first | exact HRES.out.symm | (rw [HRES.out]; simp; done)), HB2.out⟩
      | true =>
        cases e3 : (m.hint == z16) with
        | false =>
          have HRES : Hid (decide m.right = false) := by show _ = _; rw [HRES0.out, e1, e2, e3]; rfl
          go_enter Tryd.func10, Tryd.ntmps10
          go_upto_region 1 with fail
          generalize hw1 : w.alloc (.cells (msgA m p c) 28) = w1 at *
          have HR0 : Hid (w1.heap[w.heap.size]? = some (.cells (msgA m p c) 28 (0, 0))) := by rw [← hw1]; exact heap_alloc_last _ _
          have HB1 : Hid (Below w.heap.size w w1) := by rw [← hw1]; exact Below.allocs _ _
          clear hw1
          obtain ⟨a0, a1, a2, a3, a4, a5⟩ := msg_cells HWF.out.hint HR0.out
          clear a5
          go_upto_region 4 with (first
            | refine Rdr.wpList_build rfl 25 _ rfl [] rfl _ built_h0 ?_
            | refine wpList_store_row rfl 25 _ _ rfl w1.heap.size (idA z16) rfl rfl 25 (idA z16) (heap_alloc_last _ _) (sizeH _ rfl) rfl (idA_one _) ?_)
          try simp only [Act.put]
          have hr2 : ((w1.alloc (.cells (idA z16) 25)).setRow w1.heap.size (idA z16)).heap[w1.heap.size]? = some (.cells (idA z16) 25 (0, 0)) := setRow_heap _ _ _ _ _ _ (heap_alloc_last _ _)
          have hb2 : Below w1.heap.size w1 ((w1.alloc (.cells (idA z16) 25)).setRow w1.heap.size (idA z16)) := below_setRow (Below.allocs _ _) (Nat.le_refl _) _
          generalize (w1.alloc (.cells (idA z16) 25)).setRow w1.heap.size (idA z16) = w2 at *
          have HZ2 := Lib.hid hr2
          have hr0 := Below.keepOld hb2 HR0.out
          have HB2 := Lib.hid (HB1.out.trans (hb2.mono HB1.out.size))
          clear a0 a1 a2 a3 a4 hr2 hb2 HR0
          obtain ⟨a0, a1, a2, a3, a4, a5⟩ := msg_cells HWF.out.hint hr0
          have HRG := Lib.hid a5
          clear a5 hr0
          go_wp2_with (first
            | ((with_reducible refine wpAt 28 ?_); refine wpList_unguard (by rfl) ?_; refine wpList_load_mid rfl 25 _ rfl w.heap.size 4 rfl (idA m.hint).toList _ HRG.out Tryd.underlying25 rfl (by rw [Array.length_toList]; exact sizeH _ HWF.out.hint) ?_)
            | ((with_reducible refine wpAt 56 ?_); refine wpList_unguard (by rfl) ?_; refine wpList_load_mid rfl 25 _ rfl w.heap.size 4 rfl (idA m.hint).toList _ HRG.out Tryd.underlying25 rfl (by rw [Array.length_toList]; exact sizeH _ HWF.out.hint) ?_)
            | ((with_reducible refine wpAt 29 ?_); refine wpList_unguard (by rfl) ?_; refine wpList_load_row rfl 25 _ rfl w1.heap.size rfl 25 (idA z16) (0, 0) _ HZ2.out Tryd.underlying25 rfl (sizeH _ rfl) ?_)
            | ((with_reducible refine wpAt 57 ?_); refine wpList_unguard (by rfl) ?_; refine wpList_load_row rfl 25 _ rfl w1.heap.size rfl 25 (idA z16) (0, 0) _ HZ2.out Tryd.underlying25 rfl (sizeH _ rfl) ?_))
          go_ret
          exact ⟨bret (by first | exact HRES.out.symm | (rw [HRES.out]; simp; done)), HB2.out⟩
        | true =>
          have HRES : Hid (decide m.right = BB) := by show _ = _; rw [HRES0.out, e1, e2, e3]; rfl
          go_enter Tryd.func10, Tryd.ntmps10
          go_upto_region 1 with fail
          generalize hw1 : w.alloc (.cells (msgA m p c) 28) = w1 at *
          have HR0 : Hid (w1.heap[w.heap.size]? = some (.cells (msgA m p c) 28 (0, 0))) := by rw [← hw1]; exact heap_alloc_last _ _
          have HB1 : Hid (Below w.heap.size w w1) := by rw [← hw1]; exact Below.allocs _ _
          clear hw1
          obtain ⟨a0, a1, a2, a3, a4, a5⟩ := msg_cells HWF.out.hint HR0.out
          clear a5
          go_upto_region 4 with (first
            | refine Rdr.wpList_build rfl 25 _ rfl [] rfl _ built_h0 ?_
            | refine wpList_store_row rfl 25 _ _ rfl w1.heap.size (idA z16) rfl rfl 25 (idA z16) (heap_alloc_last _ _) (sizeH _ rfl) rfl (idA_one _) ?_)
          try simp only [Act.put]
          have hr2 : ((w1.alloc (.cells (idA z16) 25)).setRow w1.heap.size (idA z16)).heap[w1.heap.size]? = some (.cells (idA z16) 25 (0, 0)) := setRow_heap _ _ _ _ _ _ (heap_alloc_last _ _)
          have hb2 : Below w1.heap.size w1 ((w1.alloc (.cells (idA z16) 25)).setRow w1.heap.size (idA z16)) := below_setRow (Below.allocs _ _) (Nat.le_refl _) _
          generalize (w1.alloc (.cells (idA z16) 25)).setRow w1.heap.size (idA z16) = w2 at *
          have HZ2 := Lib.hid hr2
          have hr0 := Below.keepOld hb2 HR0.out
          have HB2 := Lib.hid (HB1.out.trans (hb2.mono HB1.out.size))
          clear a0 a1 a2 a3 a4 hr2 hb2 HR0
          obtain ⟨a0, a1, a2, a3, a4, a5⟩ := msg_cells HWF.out.hint hr0
          have HRG := Lib.hid a5
          clear a5 hr0
          go_wp2_with (first
            | ((with_reducible refine wpAt 28 ?_); refine wpList_unguard (by rfl) ?_; refine wpList_load_mid rfl 25 _ rfl w.heap.size 4 rfl (idA m.hint).toList _ HRG.out Tryd.underlying25 rfl (by rw [Array.length_toList]; exact sizeH _ HWF.out.hint) ?_)
            | ((with_reducible refine wpAt 56 ?_); refine wpList_unguard (by rfl) ?_; refine wpList_load_mid rfl 25 _ rfl w.heap.size 4 rfl (idA m.hint).toList _ HRG.out Tryd.underlying25 rfl (by rw [Array.length_toList]; exact sizeH _ HWF.out.hint) ?_)
            | ((with_reducible refine wpAt 29 ?_); refine wpList_unguard (by rfl) ?_; refine wpList_load_row rfl 25 _ rfl w1.heap.size rfl 25 (idA z16) (0, 0) _ HZ2.out Tryd.underlying25 rfl (sizeH _ rfl) ?_)
            | ((with_reducible refine wpAt 57 ?_); refine wpList_unguard (by rfl) ?_; refine wpList_load_row rfl 25 _ rfl w1.heap.size rfl 25 (idA z16) (0, 0) _ HZ2.out Tryd.underlying25 rfl (sizeH _ rfl) ?_))
          go_ret
          exact ⟨bret (by first | exact HRES.out.symm | (rw [HRES.out]; simp; done)), HB2.out⟩
  have t1 : (m.kind == 1) = false := by rw [beq_eq_false_iff_ne]; exact h1
  by_cases h2 : m.kind = 2
  · have t2 : (m.kind == 2) = true := by rw [beq_iff_eq]; exact h2
    have HRES : Hid (decide m.right = ((m.quo : Int) == 0)) := by
      show _ = _
      rw [Bool.eq_iff_iff, decide_eq_true_eq, ← ko]
      unfold MsgD.right
      constructor
      · rintro (⟨h, _⟩ | ⟨_, h3, h4⟩ | ⟨h, _⟩)
        · omega
        · exact h3
        · omega
      · intro h3
        exact .inr (.inl ⟨h2, h3, by omega⟩)
    clear h1 h2 hQ hL hbn ks kq ko kh
    go_enter Tryd.func10, Tryd.ntmps10
    go_upto_region 1 with fail
    generalize hw1 : w.alloc (.cells (msgA m p c) 28) = w1 at *
    have HR0 : Hid (w1.heap[w.heap.size]? = some (.cells (msgA m p c) 28 (0, 0))) := by rw [← hw1]; exact heap_alloc_last _ _
    have HB1 : Hid (Below w.heap.size w w1) := by rw [← hw1]; exact Below.allocs _ _
    clear hw1
    obtain ⟨a0, a1, a2, a3, a4, a5⟩ := msg_cells HWF.out.hint HR0.out
    clear a5
    go_upto_region 4 with (first
      | refine Rdr.wpList_build rfl 25 _ rfl [] rfl _ built_h0 ?_
      | refine wpList_store_row rfl 25 _ _ rfl w1.heap.size (idA z16) rfl rfl 25 (idA z16) (heap_alloc_last _ _) (sizeH _ rfl) rfl (idA_one _) ?_)
    try simp only [Act.put]
    have hr2 : ((w1.alloc (.cells (idA z16) 25)).setRow w1.heap.size (idA z16)).heap[w1.heap.size]? = some (.cells (idA z16) 25 (0, 0)) := setRow_heap _ _ _ _ _ _ (heap_alloc_last _ _)
    have hb2 : Below w1.heap.size w1 ((w1.alloc (.cells (idA z16) 25)).setRow w1.heap.size (idA z16)) := below_setRow (Below.allocs _ _) (Nat.le_refl _) _
    generalize (w1.alloc (.cells (idA z16) 25)).setRow w1.heap.size (idA z16) = w2 at *
    have HZ2 := Lib.hid hr2
    have hr0 := Below.keepOld hb2 HR0.out
    have HB2 := Lib.hid (HB1.out.trans (hb2.mono HB1.out.size))
    clear a0 a1 a2 a3 a4 hr2 hb2 HR0
    obtain ⟨a0, a1, a2, a3, a4, a5⟩ := msg_cells HWF.out.hint hr0
    have HRG := Lib.hid a5
    clear a5 hr0
    go_wp2_with (first
      | ((with_reducible refine wpAt 28 ?_); refine wpList_unguard (by rfl) ?_; refine wpList_load_mid rfl 25 _ rfl w.heap.size 4 rfl (idA m.hint).toList _ HRG.out Tryd.underlying25 rfl (by rw [Array.length_toList]; exact sizeH _ HWF.out.hint) ?_)
      | ((with_reducible refine wpAt 56 ?_); refine wpList_unguard (by rfl) ?_; refine wpList_load_mid rfl 25 _ rfl w.heap.size 4 rfl (idA m.hint).toList _ HRG.out Tryd.underlying25 rfl (by rw [Array.length_toList]; exact sizeH _ HWF.out.hint) ?_)
      | ((with_reducible refine wpAt 29 ?_); refine wpList_unguard (by rfl) ?_; refine wpList_load_row rfl 25 _ rfl w1.heap.size rfl 25 (idA z16) (0, 0) _ HZ2.out Tryd.underlying25 rfl (sizeH _ rfl) ?_)
      | ((with_reducible refine wpAt 57 ?_); refine wpList_unguard (by rfl) ?_; refine wpList_load_row rfl 25 _ rfl w1.heap.size rfl 25 (idA z16) (0, 0) _ HZ2.out Tryd.underlying25 rfl (sizeH _ rfl) ?_))
    go_ret
    exact ⟨bret (by first | exact HRES.out.symm | (rw [HRES.out]; simp; done)), HB2.out⟩
  have t2 : (m.kind == 2) = false := by rw [beq_eq_false_iff_ne]; exact h2
  by_cases h34 : m.kind = 3 ∨ m.kind = 4
  · have HRES0 : Hid (decide m.right = (((m.seq : Int) == 0) && (((m.quo : Int) == 0) && ((m.hint == z16) && BB)))) := by
      show _ = _
      rw [Bool.eq_iff_iff]
      simp only [decide_eq_true_eq, Bool.and_eq_true]
      rw [← kq, ← ko, ← kh, ← hbn]
      unfold MsgD.right
      constructor
      · rintro (⟨h, _⟩ | ⟨h, _⟩ | ⟨_, h2, h3, h4, h5⟩)
        · omega
        · omega
        · exact ⟨h2, h3, h4, h5⟩
      · rintro ⟨h2, h3, h4, h5⟩
        exact .inr (.inr ⟨h34, h2, h3, h4, h5⟩)
    have hmain : ∀ t3 t4 : Bool, (m.kind == 3) = t3 → (m.kind == 4) = t4 → (t3 = true ∨ (t3 = false ∧ t4 = true)) → Calls Tryd.prog 10 #[.agg (msgA m p c)] w fun e w' => e = .returned (.bool (decide m.right)) ∧ Below w.heap.size w w' := by
      clear h1 h2 h34 hQ hL hbn ks kq ko kh
      intro t3 t4 ht3 ht4 hor
      cases e1 : ((m.seq : Int) == 0) with
      | false =>
        have HRES : Hid (decide m.right = false) := by show _ = _; rw [HRES0.out, e1]; rfl
        rcases hor with rfl | ⟨rfl, rfl⟩
        · skip
          go_enter Tryd.func10, Tryd.ntmps10
          go_upto_region 1 with fail
          generalize hw1 : w.alloc (.cells (msgA m p c) 28) = w1 at *
          have HR0 : Hid (w1.heap[w.heap.size]? = some (.cells (msgA m p c) 28 (0, 0))) := by rw [← hw1]; exact heap_alloc_last _ _
          have HB1 : Hid (Below w.heap.size w w1) := by rw [← hw1]; exact Below.allocs _ _
          clear hw1
          obtain ⟨a0, a1, a2, a3, a4, a5⟩ := msg_cells HWF.out.hint HR0.out
          clear a5
          go_upto_region 4 with (first
            | refine Rdr.wpList_build rfl 25 _ rfl [] rfl _ built_h0 ?_
            | refine wpList_store_row rfl 25 _ _ rfl w1.heap.size (idA z16) rfl rfl 25 (idA z16) (heap_alloc_last _ _) (sizeH _ rfl) rfl (idA_one _) ?_)
          try simp only [Act.put]
          have hr2 : ((w1.alloc (.cells (idA z16) 25)).setRow w1.heap.size (idA z16)).heap[w1.heap.size]? = some (.cells (idA z16) 25 (0, 0)) := setRow_heap _ _ _ _ _ _ (heap_alloc_last _ _)
          have hb2 : Below w1.heap.size w1 ((w1.alloc (.cells (idA z16) 25)).setRow w1.heap.size (idA z16)) := below_setRow (Below.allocs _ _) (Nat.le_refl _) _
          generalize (w1.alloc (.cells (idA z16) 25)).setRow w1.heap.size (idA z16) = w2 at *
          have HZ2 := Lib.hid hr2
          have hr0 := Below.keepOld hb2 HR0.out
          have HB2 := Lib.hid (HB1.out.trans (hb2.mono HB1.out.size))
          clear a0 a1 a2 a3 a4 hr2 hb2 HR0
          obtain ⟨a0, a1, a2, a3, a4, a5⟩ := msg_cells HWF.out.hint hr0
          have HRG := Lib.hid a5
          clear a5 hr0
          go_wp2_with (first
            | ((with_reducible refine wpAt 28 ?_); refine wpList_unguard (by rfl) ?_; refine wpList_load_mid rfl 25 _ rfl w.heap.size 4 rfl (idA m.hint).toList _ HRG.out Tryd.underlying25 rfl (by rw [Array.length_toList]; exact sizeH _ HWF.out.hint) ?_)
            | ((with_reducible refine wpAt 56 ?_); refine wpList_unguard (by rfl) ?_; refine wpList_load_mid rfl 25 _ rfl w.heap.size 4 rfl (idA m.hint).toList _ HRG.out Tryd.underlying25 rfl (by rw [Array.length_toList]; exact sizeH _ HWF.out.hint) ?_)
            | ((with_reducible refine wpAt 29 ?_); refine wpList_unguard (by rfl) ?_; refine wpList_load_row rfl 25 _ rfl w1.heap.size rfl 25 (idA z16) (0, 0) _ HZ2.out Tryd.underlying25 rfl (sizeH _ rfl) ?_)
            | ((with_reducible refine wpAt 57 ?_); refine wpList_unguard (by rfl) ?_; refine wpList_load_row rfl 25 _ rfl w1.heap.size rfl 25 (idA z16) (0, 0) _ HZ2.out Tryd.underlying25 rfl (sizeH _ rfl) ?_))
          go_ret
          exact ⟨bret (by first | exact HRES.out.symm | (rw [HRES.out]; simp; done)), HB2.out⟩
        · skip
          go_enter Tryd.func10, Tryd.ntmps10
          go_upto_region 1 with fail
          generalize hw1 : w.alloc (.cells (msgA m p c) 28) = w1 at *
          have HR0 : Hid (w1.heap[w.heap.size]? = some (.cells (msgA m p c) 28 (0, 0))) := by rw [← hw1]; exact heap_alloc_last _ _
          have HB1 : Hid (Below w.heap.size w w1) := by rw [← hw1]; exact Below.allocs _ _
          clear hw1
          obtain ⟨a0, a1, a2, a3, a4, a5⟩ := msg_cells HWF.out.hint HR0.out
          clear a5
          go_upto_region 4 with (first
            | refine Rdr.wpList_build rfl 25 _ rfl [] rfl _ built_h0 ?_
            | refine wpList_store_row rfl 25 _ _ rfl w1.heap.size (idA z16) rfl rfl 25 (idA z16) (heap_alloc_last _ _) (sizeH _ rfl) rfl (idA_one _) ?_)
          try simp only [Act.put]
          have hr2 : ((w1.alloc (.cells (idA z16) 25)).setRow w1.heap.size (idA z16)).heap[w1.heap.size]? = some (.cells (idA z16) 25 (0, 0)) := setRow_heap _ _ _ _ _ _ (heap_alloc_last _ _)
          have hb2 : Below w1.heap.size w1 ((w1.alloc (.cells (idA z16) 25)).setRow w1.heap.size (idA z16)) := below_setRow (Below.allocs _ _) (Nat.le_refl _) _
          generalize (w1.alloc (.cells (idA z16) 25)).setRow w1.heap.size (idA z16) = w2 at *
          have HZ2 := Lib.hid hr2
          have hr0 := Below.keepOld hb2 HR0.out
          have HB2 := Lib.hid (HB1.out.trans (hb2.mono HB1.out.size))
          clear a0 a1 a2 a3 a4 hr2 hb2 HR0
          obtain ⟨a0, a1, a2, a3, a4, a5⟩ := msg_cells HWF.out.hint hr0
          have HRG := Lib.hid a5
          clear a5 hr0
          go_wp2_with (first
            | ((with_reducible refine wpAt 28 ?_); refine wpList_unguard (by rfl) ?_; refine wpList_load_mid rfl 25 _ rfl w.heap.size 4 rfl (idA m.hint).toList _ HRG.out Tryd.underlying25 rfl (by rw [Array.length_toList]; exact sizeH _ HWF.out.hint) ?_)
            | ((with_reducible refine wpAt 56 ?_); refine wpList_unguard (by rfl) ?_; refine wpList_load_mid rfl 25 _ rfl w.heap.size 4 rfl (idA m.hint).toList _ HRG.out Tryd.underlying25 rfl (by rw [Array.length_toList]; exact sizeH _ HWF.out.hint) ?_)
            | ((with_reducible refine wpAt 29 ?_); refine wpList_unguard (by rfl) ?_; refine wpList_load_row rfl 25 _ rfl w1.heap.size rfl 25 (idA z16) (0, 0) _ HZ2.out Tryd.underlying25 rfl (sizeH _ rfl) ?_)
            | ((with_reducible refine wpAt 57 ?_); refine wpList_unguard (by rfl) ?_; refine wpList_load_row rfl 25 _ rfl w1.heap.size rfl 25 (idA z16) (0, 0) _ HZ2.out Tryd.underlying25 rfl (sizeH _ rfl) ?_))
          go_ret
          exact ⟨bret (by first | exact HRES.out.symm | (rw [HRES.out]; simp; done)), HB2.out⟩
      | true =>
        cases e2 : ((m.quo : Int) == 0) with
        | false =>
          have HRES : Hid (decide m.right = false) := by show _ = _; rw [HRES0.out, e1, e2]; rfl
          rcases hor with rfl | ⟨rfl, rfl⟩
          · skip
            go_enter Tryd.func10, Tryd.ntmps10
            go_upto_region 1 with fail
            generalize hw1 : w.alloc (.cells (msgA m p c) 28) = w1 at *
            have HR0 : Hid (w1.heap[w.heap.size]? = some (.cells (msgA m p c) 28 (0, 0))) := by rw [← hw1]; exact heap_alloc_last _ _
            have HB1 : Hid (Below w.heap.size w w1) := by rw [← hw1]; exact Below.allocs _ _
            clear hw1
            obtain ⟨a0, a1, a2, a3, a4, a5⟩ := msg_cells HWF.out.hint HR0.out
            clear a5
            go_upto_region 4 with (first
              | refine Rdr.wpList_build rfl 25 _ rfl [] rfl _ built_h0 ?_
              | refine wpList_store_row rfl 25 _ _ rfl w1.heap.size (idA z16) rfl rfl 25 (idA z16) (heap_alloc_last _ _) (sizeH _ rfl) rfl (idA_one _) ?_)
            try simp only [Act.put]
            have hr2 : ((w1.alloc (.cells (idA z16) 25)).setRow w1.heap.size (idA z16)).heap[w1.heap.size]? = some (.cells (idA z16) 25 (0, 0)) := setRow_heap _ _ _ _ _ _ (heap_alloc_last _ _)
            have hb2 : Below w1.heap.size w1 ((w1.alloc (.cells (idA z16) 25)).setRow w1.heap.size (idA z16)) := below_setRow (Below.allocs _ _) (Nat.le_refl _) _
            generalize (w1.alloc (.cells (idA z16) 25)).setRow w1.heap.size (idA z16) = w2 at *
            have HZ2 := Lib.hid hr2
            have hr0 := Below.keepOld hb2 HR0.out
            have HB2 := Lib.hid (HB1.out.trans (hb2.mono HB1.out.size))
            clear a0 a1 a2 a3 a4 hr2 hb2 HR0
            obtain ⟨a0, a1, a2, a3, a4, a5⟩ := msg_cells HWF.out.hint hr0
            have HRG := Lib.hid a5
            clear a5 hr0
            go_wp2_with (first
              | ((with_reducible refine wpAt 28 ?_); refine wpList_unguard (by rfl) ?_; refine wpList_load_mid rfl 25 _ rfl w.heap.size 4 rfl (idA m.hint).toList _ HRG.out Tryd.underlying25 rfl (by rw [Array.length_toList]; exact sizeH _ HWF.out.hint) ?_)
              | ((with_reducible refine wpAt 56 ?_); refine wpList_unguard (by rfl) ?_; refine wpList_load_mid rfl 25 _ rfl w.heap.size 4 rfl (idA m.hint).toList _ HRG.out Tryd.underlying25 rfl (by rw [Array.length_toList]; exact sizeH _ HWF.out.hint) ?_)
              | ((with_reducible refine wpAt 29 ?_); refine wpList_unguard (by rfl) ?_; refine wpList_load_row rfl 25 _ rfl w1.heap.size rfl 25 (idA z16) (0, 0) _ HZ2.out Tryd.underlying25 rfl (sizeH _ rfl) ?_)
              | ((with_reducible refine wpAt 57 ?_); refine wpList_unguard (by rfl) ?_; refine wpList_load_row rfl 25 _ rfl w1.heap.size rfl 25 (idA z16) (0, 0) _ HZ2.out Tryd.underlying25 rfl (sizeH _ rfl) ?_))
            go_ret
            exact ⟨bret (by first | exact HRES.out.symm | (rw [HRES.out]; simp; done)), HB2.out⟩
          · skip
            go_enter Tryd.func10, Tryd.ntmps10
            go_upto_region 1 with fail
            generalize hw1 : w.alloc (.cells (msgA m p c) 28) = w1 at *
            have HR0 : Hid (w1.heap[w.heap.size]? = some (.cells (msgA m p c) 28 (0, 0))) := by rw [← hw1]; exact heap_alloc_last _ _
            have HB1 : Hid (Below w.heap.size w w1) := by rw [← hw1]; exact Below.allocs _ _
            clear hw1
            obtain ⟨a0, a1, a2, a3, a4, a5⟩ := msg_cells HWF.out.hint HR0.out
            clear a5
            go_upto_region 4 with (first
              | refine Rdr.wpList_build rfl 25 _ rfl [] rfl _ built_h0 ?_
              | refine wpList_store_row rfl 25 _ _ rfl w1.heap.size (idA z16) rfl rfl 25 (idA z16) (heap_alloc_last _ _) (sizeH _ rfl) rfl (idA_one _) ?_)
            try simp only [Act.put]
            have hr2 : ((w1.alloc (.cells (idA z16) 25)).setRow w1.heap.size (idA z16)).heap[w1.heap.size]? = some (.cells (idA z16) 25 (0, 0)) := setRow_heap _ _ _ _ _ _ (heap_alloc_last _ _)
            have hb2 : Below w1.heap.size w1 ((w1.alloc (.cells (idA z16) 25)).setRow w1.heap.size (idA z16)) := below_setRow (Below.allocs _ _) (Nat.le_refl _) _
            generalize (w1.alloc (.cells (idA z16) 25)).setRow w1.heap.size (idA z16) = w2 at *
            have HZ2 := Lib.hid hr2
            have hr0 := Below.keepOld hb2 HR0.out
            have HB2 := Lib.hid (HB1.out.trans (hb2.mono HB1.out.size))
            clear a0 a1 a2 a3 a4 hr2 hb2 HR0
            obtain ⟨a0, a1, a2, a3, a4, a5⟩ := msg_cells HWF.out.hint hr0
            have HRG := Lib.hid a5
            clear a5 hr0
            go_wp2_with (first
              | ((with_reducible refine wpAt 28 ?_); refine wpList_unguard (by rfl) ?_; refine wpList_load_mid rfl 25 _ rfl w.heap.size 4 rfl (idA m.hint).toList _ HRG.out Tryd.underlying25 rfl (by rw [Array.length_toList]; exact sizeH _ HWF.out.hint) ?_)
              | ((with_reducible refine wpAt 56 ?_); refine wpList_unguard (by rfl) ?_; refine wpList_load_mid rfl 25 _ rfl w.heap.size 4 rfl (idA m.hint).toList _ HRG.out Tryd.underlying25 rfl (by rw [Array.length_toList]; exact sizeH _ HWF.out.hint) ?_)
              | ((with_reducible refine wpAt 29 ?_); refine wpList_unguard (by rfl) ?_; refine wpList_load_row rfl 25 _ rfl w1.heap.size rfl 25 (idA z16) (0, 0) _ HZ2.out Tryd.underlying25 rfl (sizeH _ rfl) ?_)
              | ((with_reducible refine wpAt 57 ?_); refine wpList_unguard (by rfl) ?_; refine wpList_load_row rfl 25 _ rfl w1.heap.size rfl 25 (idA z16) (0, 0) _ HZ2.out Tryd.underlying25 rfl (sizeH _ rfl) ?_))
            go_ret
            exact ⟨bret (by first | exact HRES.out.symm | (rw [HRES.out]; simp; done)), HB2.out⟩
        | true =>
          cases e3 : (m.hint == z16) with
          | false =>
            have HRES : Hid (decide m.right = false) := by show _ = _; rw [HRES0.out, e1, e2, e3]; rfl
            rcases hor with rfl | ⟨rfl, rfl⟩
            · skip
              go_enter Tryd.func10, Tryd.ntmps10
              go_upto_region 1 with fail
              generalize hw1 : w.alloc (.cells (msgA m p c) 28) = w1 at *
              have HR0 : Hid (w1.heap[w.heap.size]? = some (.cells (msgA m p c) 28 (0, 0))) := by rw [← hw1]; exact heap_alloc_last _ _
              have HB1 : Hid (Below w.heap.size w w1) := by rw [← hw1]; exact Below.allocs _ _
              clear hw1
              obtain ⟨a0, a1, a2, a3, a4, a5⟩ := msg_cells HWF.out.hint HR0.out
              clear a5
              go_upto_region 4 with (first
                | refine Rdr.wpList_build rfl 25 _ rfl [] rfl _ built_h0 ?_
                | refine wpList_store_row rfl 25 _ _ rfl w1.heap.size (idA z16) rfl rfl 25 (idA z16) (heap_alloc_last _ _) (sizeH _ rfl) rfl (idA_one _) ?_)
              try simp only [Act.put]
              have hr2 : ((w1.alloc (.cells (idA z16) 25)).setRow w1.heap.size (idA z16)).heap[w1.heap.size]? = some (.cells (idA z16) 25 (0, 0)) := setRow_heap _ _ _ _ _ _ (heap_alloc_last _ _)
              have hb2 : Below w1.heap.size w1 ((w1.alloc (.cells (idA z16) 25)).setRow w1.heap.size (idA z16)) := below_setRow (Below.allocs _ _) (Nat.le_refl _) _
              generalize (w1.alloc (.cells (idA z16) 25)).setRow w1.heap.size (idA z16) = w2 at *
              have HZ2 := Lib.hid hr2
              have hr0 := Below.keepOld hb2 HR0.out
              have HB2 := Lib.hid (HB1.out.trans (hb2.mono HB1.out.size))
              clear a0 a1 a2 a3 a4 hr2 hb2 HR0
              obtain ⟨a0, a1, a2, a3, a4, a5⟩ := msg_cells HWF.out.hint hr0
              have HRG := Lib.hid a5
              clear a5 hr0
              go_wp2_with (first
                | ((with_reducible refine wpAt 28 ?_); refine wpList_unguard (by rfl) ?_; refine wpList_load_mid rfl 25 _ rfl w.heap.size 4 rfl (idA m.hint).toList _ HRG.out Tryd.underlying25 rfl (by rw [Array.length_toList]; exact sizeH _ HWF.out.hint) ?_)
                | ((with_reducible refine wpAt 56 ?_); refine wpList_unguard (by rfl) ?_; refine wpList_load_mid rfl 25 _ rfl w.heap.size 4 rfl (idA m.hint).toList _ HRG.out Tryd.underlying25 rfl (by rw [Array.length_toList]; exact sizeH _ HWF.out.hint) ?_)
                | ((with_reducible refine wpAt 29 ?_); refine wpList_unguard (by rfl) ?_; refine wpList_load_row rfl 25 _ rfl w1.heap.size rfl 25 (idA z16) (0, 0) _ HZ2.out Tryd.underlying25 rfl (sizeH _ rfl) ?_)
                | ((with_reducible refine wpAt 57 ?_); refine wpList_unguard (by rfl) ?_; refine wpList_load_row rfl 25 _ rfl w1.heap.size rfl 25 (idA z16) (0, 0) _ HZ2.out Tryd.underlying25 rfl (sizeH _ rfl) ?_))
              go_ret
              exact ⟨bret (by first | exact HRES.out.symm | (rw [HRES.out]; simp; done)), HB2.out⟩
            · skip
              go_enter Tryd.func10, Tryd.ntmps10
              go_upto_region 1 with fail
              generalize hw1 : w.alloc (.cells (msgA m p c) 28) = w1 at *
              have HR0 : Hid (w1.heap[w.heap.size]? = some (.cells (msgA m p c) 28 (0, 0))) := by rw [← hw1]; exact heap_alloc_last _ _
              have HB1 : Hid (Below w.heap.size w w1) := by rw [← hw1]; exact Below.allocs _ _
              clear hw1
              obtain ⟨a0, a1, a2, a3, a4, a5⟩ := msg_cells HWF.out.hint HR0.out
              clear a5
              go_upto_region 4 with (first
                | refine Rdr.wpList_build rfl 25 _ rfl [] rfl _ built_h0 ?_
                | refine wpList_store_row rfl 25 _ _ rfl w1.heap.size (idA z16) rfl rfl 25 (idA z16) (heap_alloc_last _ _) (sizeH _ rfl) rfl (idA_one _) ?_)
              try simp only [Act.put]
              have hr2 : ((w1.alloc (.cells (idA z16) 25)).setRow w1.heap.size (idA z16)).heap[w1.heap.size]? = some (.cells (idA z16) 25 (0, 0)) := setRow_heap _ _ _ _ _ _ (heap_alloc_last _ _)
              have hb2 : Below w1.heap.size w1 ((w1.alloc (.cells (idA z16) 25)).setRow w1.heap.size (idA z16)) := below_setRow (Below.allocs _ _) (Nat.le_refl _) _
              generalize (w1.alloc (.cells (idA z16) 25)).setRow w1.heap.size (idA z16) = w2 at *
              have HZ2 := Lib.hid hr2
              have hr0 := Below.keepOld hb2 HR0.out
              have HB2 := Lib.hid (HB1.out.trans (hb2.mono HB1.out.size))
              clear a0 a1 a2 a3 a4 hr2 hb2 HR0
              obtain ⟨a0, a1, a2, a3, a4, a5⟩ := msg_cells HWF.out.hint hr0
              have HRG := Lib.hid a5
              clear a5 hr0
              go_wp2_with (first
                | ((with_reducible refine wpAt 28 ?_); refine wpList_unguard (by rfl) ?_; refine wpList_load_mid rfl 25 _ rfl w.heap.size 4 rfl (idA m.hint).toList _ HRG.out Tryd.underlying25 rfl (by rw [Array.length_toList]; exact sizeH _ HWF.out.hint) ?_)
                | ((with_reducible refine wpAt 56 ?_); refine wpList_unguard (by rfl) ?_; refine wpList_load_mid rfl 25 _ rfl w.heap.size 4 rfl (idA m.hint).toList _ HRG.out Tryd.underlying25 rfl (by rw [Array.length_toList]; exact sizeH _ HWF.out.hint) ?_)
                | ((with_reducible refine wpAt 29 ?_); refine wpList_unguard (by rfl) ?_; refine wpList_load_row rfl 25 _ rfl w1.heap.size rfl 25 (idA z16) (0, 0) _ HZ2.out Tryd.underlying25 rfl (sizeH _ rfl) ?_)
                | ((with_reducible refine wpAt 57 ?_); refine wpList_unguard (by rfl) ?_; refine wpList_load_row rfl 25 _ rfl w1.heap.size rfl 25 (idA z16) (0, 0) _ HZ2.out Tryd.underlying25 rfl (sizeH _ rfl) ?_))
              go_ret
              exact ⟨bret (by first | exact HRES.out.symm | (rw [HRES.out]; simp; done)), HB2.out⟩
          | true =>
            have HRES : Hid (decide m.right = BB) := by show _ = _; rw [HRES0.out, e1, e2, e3]; rfl
            rcases hor with rfl | ⟨rfl, rfl⟩
            · skip
              go_enter Tryd.func10, Tryd.ntmps10
              go_upto_region 1 with fail
              generalize hw1 : w.alloc (.cells (msgA m p c) 28) = w1 at *
              have HR0 : Hid (w1.heap[w.heap.size]? = some (.cells (msgA m p c) 28 (0, 0))) := by rw [← hw1]; exact heap_alloc_last _ _
              have HB1 : Hid (Below w.heap.size w w1) := by rw [← hw1]; exact Below.allocs _ _
              clear hw1
              obtain ⟨a0, a1, a2, a3, a4, a5⟩ := msg_cells HWF.out.hint HR0.out
              clear a5
              go_upto_region 4 with (first
                | refine Rdr.wpList_build rfl 25 _ rfl [] rfl _ built_h0 ?_
                | refine wpList_store_row rfl 25 _ _ rfl w1.heap.size (idA z16) rfl rfl 25 (idA z16) (heap_alloc_last _ _) (sizeH _ rfl) rfl (idA_one _) ?_)
              try simp only [Act.put]
              have hr2 : ((w1.alloc (.cells (idA z16) 25)).setRow w1.heap.size (idA z16)).heap[w1.heap.size]? = some (.cells (idA z16) 25 (0, 0)) := setRow_heap _ _ _ _ _ _ (heap_alloc_last _ _)
              have hb2 : Below w1.heap.size w1 ((w1.alloc (.cells (idA z16) 25)).setRow w1.heap.size (idA z16)) := below_setRow (Below.allocs _ _) (Nat.le_refl _) _
              generalize (w1.alloc (.cells (idA z16) 25)).setRow w1.heap.size (idA z16) = w2 at *
              have HZ2 := Lib.hid hr2
              have hr0 := Below.keepOld hb2 HR0.out
              have HB2 := Lib.hid (HB1.out.trans (hb2.mono HB1.out.size))
              clear a0 a1 a2 a3 a4 hr2 hb2 HR0
              obtain ⟨a0, a1, a2, a3, a4, a5⟩ := msg_cells HWF.out.hint hr0
              have HRG := Lib.hid a5
              clear a5 hr0
              go_wp2_with (first
                | ((with_reducible refine wpAt 28 ?_); refine wpList_unguard (by rfl) ?_; refine wpList_load_mid rfl 25 _ rfl w.heap.size 4 rfl (idA m.hint).toList _ HRG.out Tryd.underlying25 rfl (by rw [Array.length_toList]; exact sizeH _ HWF.out.hint) ?_)
                | ((with_reducible refine wpAt 56 ?_); refine wpList_unguard (by rfl) ?_; refine wpList_load_mid rfl 25 _ rfl w.heap.size 4 rfl (idA m.hint).toList _ HRG.out Tryd.underlying25 rfl (by rw [Array.length_toList]; exact sizeH _ HWF.out.hint) ?_)
                | ((with_reducible refine wpAt 29 ?_); refine wpList_unguard (by rfl) ?_; refine wpList_load_row rfl 25 _ rfl w1.heap.size rfl 25 (idA z16) (0, 0) _ HZ2.out Tryd.underlying25 rfl (sizeH _ rfl) ?_)
                | ((with_reducible refine wpAt 57 ?_); refine wpList_unguard (by rfl) ?_; refine wpList_load_row rfl 25 _ rfl w1.heap.size rfl 25 (idA z16) (0, 0) _ HZ2.out Tryd.underlying25 rfl (sizeH _ rfl) ?_))
              go_ret
              exact ⟨bret (by first | exact HRES.out.symm | (rw [HRES.out]; simp; done)), HB2.out⟩
            · skip
              go_enter Tryd.func10, Tryd.ntmps10
              go_upto_region 1 with fail
              generalize hw1 : w.alloc (.cells (msgA m p c) 28) = w1 at *
              have HR0 : Hid (w1.heap[w.heap.size]? = some (.cells (msgA m p c) 28 (0, 0))) := by rw [← hw1]; exact heap_alloc_last _ _
              have HB1 : Hid (Below w.heap.size w w1) := by rw [← hw1]; exact Below.allocs _ _
              clear hw1
              obtain ⟨a0, a1, a2, a3, a4, a5⟩ := msg_cells HWF.out.hint HR0.out
              clear a5
              go_upto_region 4 with (first
                | refine Rdr.wpList_build rfl 25 _ rfl [] rfl _ built_h0 ?_
                | refine wpList_store_row rfl 25 _ _ rfl w1.heap.size (idA z16) rfl rfl 25 (idA z16) (heap_alloc_last _ _) (sizeH _ rfl) rfl (idA_one _) ?_)
              try simp only [Act.put]
              have hr2 : ((w1.alloc (.cells (idA z16) 25)).setRow w1.heap.size (idA z16)).heap[w1.heap.size]? = some (.cells (idA z16) 25 (0, 0)) := setRow_heap _ _ _ _ _ _ (heap_alloc_last _ _)
              have hb2 : Below w1.heap.size w1 ((w1.alloc (.cells (idA z16) 25)).setRow w1.heap.size (idA z16)) := below_setRow (Below.allocs _ _) (Nat.le_refl _) _
              generalize (w1.alloc (.cells (idA z16) 25)).setRow w1.heap.size (idA z16) = w2 at *
              have HZ2 := Lib.hid hr2
              have hr0 := Below.keepOld hb2 HR0.out
              have HB2 := Lib.hid (HB1.out.trans (hb2.mono HB1.out.size))
              clear a0 a1 a2 a3 a4 hr2 hb2 HR0
              obtain ⟨a0, a1, a2, a3, a4, a5⟩ := msg_cells HWF.out.hint hr0
              have HRG := Lib.hid a5
              clear a5 hr0
              go_wp2_with (first
                | ((with_reducible refine wpAt 28 ?_); refine wpList_unguard (by rfl) ?_; refine wpList_load_mid rfl 25 _ rfl w.heap.size 4 rfl (idA m.hint).toList _ HRG.out Tryd.underlying25 rfl (by rw [Array.length_toList]; exact sizeH _ HWF.out.hint) ?_)
                | ((with_reducible refine wpAt 56 ?_); refine wpList_unguard (by rfl) ?_; refine wpList_load_mid rfl 25 _ rfl w.heap.size 4 rfl (idA m.hint).toList _ HRG.out Tryd.underlying25 rfl (by rw [Array.length_toList]; exact sizeH _ HWF.out.hint) ?_)
                | ((with_reducible refine wpAt 29 ?_); refine wpList_unguard (by rfl) ?_; refine wpList_load_row rfl 25 _ rfl w1.heap.size rfl 25 (idA z16) (0, 0) _ HZ2.out Tryd.underlying25 rfl (sizeH _ rfl) ?_)
                | ((with_reducible refine wpAt 57 ?_); refine wpList_unguard (by rfl) ?_; refine wpList_load_row rfl 25 _ rfl w1.heap.size rfl 25 (idA z16) (0, 0) _ HZ2.out Tryd.underlying25 rfl (sizeH _ rfl) ?_))
              go_ret
              exact ⟨bret (by first | exact HRES.out.symm | (rw [HRES.out]; simp; done)), HB2.out⟩
    rcases h34 with h | h
    · exact hmain true _ (by rw [beq_iff_eq]; exact h) rfl (.inl rfl)
    · exact hmain false true (by rw [beq_eq_false_iff_ne]; omega) (by rw [beq_iff_eq]; exact h) (.inr ⟨rfl, rfl⟩)
  · have t3 : (m.kind == 3) = false := by rw [beq_eq_false_iff_ne]; omega
    have t4 : (m.kind == 4) = false := by rw [beq_eq_false_iff_ne]; omega
    have HRES : Hid (decide m.right = false) := decide_eq_false (by unfold MsgD.right; omega)
    clear h1 h2 h34 hQ hL hbn ks kq ko kh
    go_enter Tryd.func10, Tryd.ntmps10
    go_upto_region 1 with fail
    generalize hw1 : w.alloc (.cells (msgA m p c) 28) = w1 at *
    have HR0 : Hid (w1.heap[w.heap.size]? = some (.cells (msgA m p c) 28 (0, 0))) := by rw [← hw1]; exact heap_alloc_last _ _
    have HB1 : Hid (Below w.heap.size w w1) := by rw [← hw1]; exact Below.allocs _ _
    clear hw1
    obtain ⟨a0, a1, a2, a3, a4, a5⟩ := msg_cells HWF.out.hint HR0.out
    clear a5
    go_upto_region 4 with (first
      | refine Rdr.wpList_build rfl 25 _ rfl [] rfl _ built_h0 ?_
      | refine wpList_store_row rfl 25 _ _ rfl w1.heap.size (idA z16) rfl rfl 25 (idA z16) (heap_alloc_last _ _) (sizeH _ rfl) rfl (idA_one _) ?_)
    try simp only [Act.put]
    have hr2 : ((w1.alloc (.cells (idA z16) 25)).setRow w1.heap.size (idA z16)).heap[w1.heap.size]? = some (.cells (idA z16) 25 (0, 0)) := setRow_heap _ _ _ _ _ _ (heap_alloc_last _ _)
    have hb2 : Below w1.heap.size w1 ((w1.alloc (.cells (idA z16) 25)).setRow w1.heap.size (idA z16)) := below_setRow (Below.allocs _ _) (Nat.le_refl _) _
    generalize (w1.alloc (.cells (idA z16) 25)).setRow w1.heap.size (idA z16) = w2 at *
    have HZ2 := Lib.hid hr2
    have hr0 := Below.keepOld hb2 HR0.out
    have HB2 := Lib.hid (HB1.out.trans (hb2.mono HB1.out.size))
    clear a0 a1 a2 a3 a4 hr2 hb2 HR0
    obtain ⟨a0, a1, a2, a3, a4, a5⟩ := msg_cells HWF.out.hint hr0
    have HRG := Lib.hid a5
    clear a5 hr0
    go_wp2_with (first
      | ((with_reducible refine wpAt 28 ?_); refine wpList_unguard (by rfl) ?_; refine wpList_load_mid rfl 25 _ rfl w.heap.size 4 rfl (idA m.hint).toList _ HRG.out Tryd.underlying25 rfl (by rw [Array.length_toList]; exact sizeH _ HWF.out.hint) ?_)
      | ((with_reducible refine wpAt 56 ?_); refine wpList_unguard (by rfl) ?_; refine wpList_load_mid rfl 25 _ rfl w.heap.size 4 rfl (idA m.hint).toList _ HRG.out Tryd.underlying25 rfl (by rw [Array.length_toList]; exact sizeH _ HWF.out.hint) ?_)
      | ((with_reducible refine wpAt 29 ?_); refine wpList_unguard (by rfl) ?_; refine wpList_load_row rfl 25 _ rfl w1.heap.size rfl 25 (idA z16) (0, 0) _ HZ2.out Tryd.underlying25 rfl (sizeH _ rfl) ?_)
      | ((with_reducible refine wpAt 57 ?_); refine wpList_unguard (by rfl) ?_; refine wpList_load_row rfl 25 _ rfl w1.heap.size rfl 25 (idA z16) (0, 0) _ HZ2.out Tryd.underlying25 rfl (sizeH _ rfl) ?_))
    go_ret
    exact ⟨bret (by first | exact HRES.out.symm | (rw [HRES.out]; simp; done)), HB2.out⟩
end Go.Proofs.YtmjdpfmofbbknaaDoor.Msg
