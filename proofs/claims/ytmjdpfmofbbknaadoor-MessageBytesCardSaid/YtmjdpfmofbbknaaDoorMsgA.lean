/- LAYER 14: the statement's own words: alive; Decode by its plain form. Conditions: the laid cell of errors.errorType. -/
import Derived.Test.YtmjdpfmofbbknaaDoorMsgQ
namespace Go.Proofs.YtmjdpfmofbbknaaDoor.Msg
open Go.RowKit Go.Mir Go.Mir.Parts Wr Cod Rdr

theorem zero_wf : MsgD.zero.wf := ⟨by decide, by decide, by decide, by decide, rfl⟩
theorem dec_wf (b : List UInt8) : (decM b).1.wf := by
  by_cases h : (decM b).2 = 0
  · exact (dec_back b h).2.1
  · rw [dec_zero b h]; exact zero_wf
theorem decode2 (p0 : Option Addr) (n0 c0 : Nat) (l : List UInt8) (w : World) (hE : EType w) (hB : Bs w p0 n0 c0 l) (hn : n0 ≤ 1099511627776) :
    Calls Tryd.prog 11 #[.slice p0 n0 c0] w fun e w' => ∃ p c, e = .returned (.tuple #[.agg (msgA (decM l).1 p c), .int .i64 (decM l).2]) ∧ w'.ownsRow w.heap.size 5 1 (.slice p (decM l).1.blob.length c) (decM l).1.blob.length (bytesV (decM l).1.blob) ∧ MsgAt w' (decM l).1 p c ∧ Below w.heap.size w w' := by
  refine (decode_any p0 n0 c0 l w hE hB hn).mono ?_
  rintro e w' ⟨p, c, he, ho, _, hb⟩
  rw [dQ_dec] at he ho
  obtain ⟨p', c', e9, hs⟩ := own_sl ho
  cases e9
  exact ⟨p, c, he, ho, ⟨dec_wf l, hs⟩, hb⟩
theorem encode2 (m : MsgD) (p : Option Addr) (c : Nat) (w : World) (hM : MsgAt w m p c) :
    Calls Tryd.prog 7 #[.agg (msgA m p c)] w fun e w' => ∃ p c, e = .returned (.tuple #[.slice p m.enc.1.length c, .int .i64 m.enc.2]) ∧ w'.ownsRow w.heap.size 5 1 (.slice p m.enc.1.length c) m.enc.1.length (bytesV m.enc.1) ∧ Bs w' p m.enc.1.length c m.enc.1 ∧ Below w.heap.size w w' := by
  refine (encode_any m p c w hM).mono ?_
  rintro e w' ⟨p, c, he, ho, hb⟩
  obtain ⟨p', c', e9, hs⟩ := own_sl ho
  cases e9
  exact ⟨p, c, he, ho, hs, hb⟩
theorem built_a : Tryd.prog.built 28 [(0, .int .i64 1), (3, .int .u32 258)] = some (msgA ⟨1, 0, 0, 258, z16, []⟩ none 0) := by kernel_rfl
set_option maxRecDepth 100000 in
set_option maxHeartbeats 1600000 in
theorem alive14_any (w : World) (hE : EType w) :
    Calls Tryd.prog 6 #[] w fun e w' => e = .returned (.bool true) ∧ Below w.heap.size w w' := by
  have HE := Lib.hid hE
  have he1 : MsgD.enc ⟨1, 0, 0, 258, z16, []⟩ = ([1, 1, 2], 0) := by decide +kernel
  have hd1 : decM [3, 0, 0, 0, 3] = (⟨3, 3, 0, 0, z16, []⟩, 0) := by decide +kernel
  have H1 := encode2 ⟨1, 0, 0, 258, z16, []⟩ none 0 w ⟨⟨by decide, by decide, by decide, by decide, rfl⟩, Sl.nil _ _⟩
  rw [he1] at H1
  have H1 := Lib.hid H1
  have H2 := fun w p c hE hB => decode2 p 5 c [3, 0, 0, 0, 3] w hE hB (by omega)
  rw [hd1] at H2
  have H2 := Lib.hid H2
  have hz := zeroM
  clear hE he1 hd1
  go_enter Tryd.func6, Tryd.ntmps6
  go_wp2_with (refine Rdr.wpList_build rfl 28 _ rfl [(0, .int .i64 1), (3, .int .u32 258)] rfl _ built_a ?_)
  refine H1.out.mono ?_
  rintro e w1 ⟨p1, c1, rfl, ho1, hb1, hbl1⟩
  have HO1 : Hid (Bs w1 p1 3 c1 [1, 1, 2]) := hb1
  have HB1 := Lib.hid hbl1
  clear ho1 hb1 hbl1
  go_wp2_with fail
  have HA2 : Hid (Below w1.heap.size w1 (w1.alloc (.cells #[.int .u8 3, .int .u8 0, .int .u8 0, .int .u8 0, .int .u8 3] 5))) := Below.allocs _ _
  have HBB : Hid (Bs (w1.alloc (.cells #[.int .u8 3, .int .u8 0, .int .u8 0, .int .u8 0, .int .u8 3] 5)) (some ⟨w1.heap.size, 0, none⟩) 5 5 [3, 0, 0, 0, 3]) := Bs.made _ _ _ _ _ _ rfl rfl (by omega)
  have HC2 := Lib.hid (HB1.out.trans (HA2.out.mono HB1.out.size))
  have HE2 := Lib.hid (HE.out.below HC2.out HE.out.lt)
  refine (H2.out _ _ _ HE2.out HBB.out).mono ?_
  rintro e w2 ⟨p2, c2, rfl, ho2, hm2, hb2⟩
  have HB2 := Lib.hid (HC2.out.trans (hb2.mono HC2.out.size))
  have HO2 := Lib.hid (HO1.out.below (HA2.out.trans (hb2.mono HA2.out.size)))
  clear ho2 hm2 hb2
  go_upto_region 3 with ((with_reducible refine wpStoreAt 3 ?_); refine wpList_store_row rfl 28 _ _ rfl w2.heap.size (msgA ⟨3, 3, 0, 0, z16, []⟩ p2 c2) rfl rfl 28 (msgA MsgD.zero none 0) (heap_alloc_last _ _) (sizeM _ rfl) rfl (msgA_one _ _ _) ?_)
  try simp only [Act.put, List.setIfInBounds_toArray, List.set_cons_zero, List.set_cons_succ]
  have hr3 : ((w2.alloc (.cells (msgA MsgD.zero none 0) 28)).setRow w2.heap.size (msgA ⟨3, 3, 0, 0, z16, []⟩ p2 c2)).heap[w2.heap.size]? = some (.cells (msgA ⟨3, 3, 0, 0, z16, []⟩ p2 c2) 28 (0, 0)) := setRow_heap _ _ _ _ _ _ (heap_alloc_last _ _)
  have hb3 : Below w2.heap.size w2 ((w2.alloc (.cells (msgA MsgD.zero none 0) 28)).setRow w2.heap.size (msgA ⟨3, 3, 0, 0, z16, []⟩ p2 c2)) := below_setRow (Below.allocs _ _) (Nat.le_refl _) _
  generalize (w2.alloc (.cells (msgA MsgD.zero none 0) 28)).setRow w2.heap.size (msgA ⟨3, 3, 0, 0, z16, []⟩ p2 c2) = w3 at *
  obtain ⟨a0, a1, a2, a3, a4, a5⟩ := msg_cells (m := ⟨3, 3, 0, 0, z16, []⟩) rfl hr3
  have HB3 := Lib.hid (HB2.out.trans (hb3.mono HB2.out.size))
  have hcv := run_conv (P := Tryd.prog) 26 9 5 Tryd.underlying26 Tryd.underlying5 Tryd.underlying9 (HO2.out.below hb3)
  clear a5 hr3 hb3
  dsimp only at a0 a1 a2 a3 a4
  go_wp2_with fail
  go_ret
  exact ⟨rfl, HB3.out⟩
end Go.Proofs.YtmjdpfmofbbknaaDoor.Msg
