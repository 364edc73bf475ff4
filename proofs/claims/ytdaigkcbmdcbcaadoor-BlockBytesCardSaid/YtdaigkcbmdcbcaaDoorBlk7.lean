/- THE WALKS OF BLOCKS, on: the document's example; a copy. Conditions: as in the first part. -/
import Derived.Test.YtdaigkcbmdcbcaaDoorBlk6
import Derived.Test.YtdaigkcbmdcbcaaDoorWriter3
import Derived.WalkMore
namespace Go.Proofs.YtdaigkcbmdcbcaaDoor.Blk
open Go.RowKit Go.Mir Go.Mir.Parts

set_option maxRecDepth 100000 in
theorem right_none (M : Array Value) (h p : List UInt8) (q : Option Addr) (c : Nat) (w : World) (hM : BlkAt w M ⟨h, p, []⟩ q 0 c) (hne : ¬ h = p) :
    Calls Tryd.prog 12 #[.agg M] w fun e w' => e = .returned (.bool true) ∧ Below w.heap.size w w' := by
  have HP := Lib.hid (hM.parts (heap_alloc_last w (.cells M 26)))
  have hq : ∀ w, (Op.equalIn 10000 23 (.agg (idA h)) (.agg (idA p))).run Tryd.prog w = .ok (h == p) w := fun w => eqI w _ _ hM.hlen hM.plen
  have HH : Hid (h.length = 32 ∧ p.length = 32) := ⟨hM.hlen, hM.plen⟩
  have hb : (h == p) = false := by rw [beq_eq_false_iff_ne]; exact hne
  have hmm := @run_makeMap Tryd.prog
  have HW : Hid (Below w.heap.size w ((w.alloc (.cells M 26)).alloc (.map #[] 0))) := (Below.allocs _ _).alloc (by simp) _
  have HK := Lib.hid (Below.keepOld (Below.allocs (w.alloc (.cells M 26)) (.map #[] 0)) (heap_alloc_last w (.cells M 26)))
  have hc := (hM.parts HK.out).2.2
  have HR := Lib.hid (hM.parts HK.out)
  clear hM hne
  go_enter Tryd.func12, Tryd.ntmps12
  go_wp2_with fail
  go_step3
  go_wp2_with (first
    | ((with_reducible refine wpAt 14 ?_); refine wpList_unguard rfl (wpList_load_mid rfl 23 _ rfl w.heap.size 0 rfl (idA h).toList _ HR.out.1 Tryd.underlying23 rfl (infoI _ (by rw [Array.length_toList, idA_size, HH.out.1])) ?_))
    | ((with_reducible refine wpAt 16 ?_); refine wpList_unguard rfl (wpList_load_mid rfl 23 _ rfl w.heap.size 32 rfl (idA p).toList _ HR.out.2.1 Tryd.underlying23 rfl (infoI _ (by rw [Array.length_toList, idA_size, HH.out.2])) ?_)))
  generalize (w.alloc (.cells M 26)).alloc (.map #[] 0) = w2 at *
  clear hq
  go_step3
  go_wp2_with fail
  go_loopw [4, 22] (fun f j wr => f = .bool true ∧ j = .int .i64 0 ∧ wr = w2) (fun _ _ _ => 0)
  case atStart => exact ⟨rfl, rfl, rfl⟩
  case round =>
    obtain ⟨rfl, rfl, rfl⟩ := hrel
    go_wp2_with fail
    rw [Exit.noGoto_ret]
    go_ret
    exact ⟨rfl, HW.out⟩

/-! ### a writer, call by call -/
structure WI (w0 wr : World) (wb : Nat) (v : Value) (room : Nat) (l : List UInt8) (bad : Int) : Prop where
  wat : Wr.WAt wr wb v room l bad
  below : Below w0.heap.size w0 wr
  own : ∀ k, Wr.foot wb v k → w0.heap.size ≤ k
theorem WI.next {w0 wr w' : World} {wb : Nat} {v : Value} {room : Nat} {l : List UInt8} {bad : Int} {r : List UInt8 × Int} (h : WI w0 wr wb v room l bad) (hl : Wr.Left wb v room r wr w') : ∃ v', WI w0 w' wb v' room r.1 r.2 := by
  obtain ⟨v', hw, ht, hn⟩ := hl
  refine ⟨v', hw, h.below.trans (ht.below h.below.size h.own), fun k hk => ?_⟩
  rcases hk with rfl | hk
  · exact h.own _ (.inl rfl)
  · by_cases hlt : k < wr.heap.size
    · exact h.own k (.inr (hn k hk hlt))
    · have := h.below.size; omega
theorem putS_fit {room : Nat} {l : List UInt8} {ps : List (List UInt8)} (h : l.length + ps.flatten.length ≤ room) : Wr.putS room l 0 true ps = (l ++ ps.flatten, 0) := by
  rw [total_flatten] at h
  unfold Wr.putS
  rw [if_pos rfl, if_pos rfl, if_pos (by omega)]
theorem be1 (n : Nat) (h : n < 256) : Wr.be n 1 = [UInt8.ofNat n] := by
  unfold Wr.be Wr.nb
  simp
def encL (d : BlkD) : List UInt8 := d.hash ++ d.par ++ [UInt8.ofNat d.txs.length] ++ d.txs.flatten
theorem flat_len (txs : List (List UInt8)) (h : ∀ x ∈ txs, x.length = 32) : txs.flatten.length = 32 * txs.length := by
  rw [total_flatten]; exact Wr.total_ids txs h

set_option maxRecDepth 100000 in
set_option maxHeartbeats 400000 in
theorem encode_ok (M : Array Value) (d : BlkD) (q : Option Addr) (n c : Nat) (w : World) (hM : BlkAt w M d q n c) (hn : n ≤ 32)
    (hR : ∀ w', BlkAt w' M d q n c → Calls Tryd.prog 12 #[.agg M] w' fun e w'' => e = .returned (.bool true) ∧ Below w'.heap.size w' w'') :
    Calls Tryd.prog 10 #[.agg M] w fun e w' => (∃ p m cc, e = .returned (.tuple #[.slice p m cc, .int .i64 0]) ∧ w'.ownsRow w.heap.size 5 1 (.slice p m cc) m (bytesV (encL d))) ∧ Below w.heap.size w w' := by
  have HM := Lib.hid hM
  have HR := Lib.hid hR
  have HMS := Lib.hid hM.size
  have HA : Hid (d.hash.length = 32 ∧ d.par.length = 32) := ⟨hM.hlen, hM.plen⟩
  have hcap := hM.ids.sl.le
  have hmax := hM.ids.sl.max
  obtain rfl : d.txs.length = n := hM.ids.count
  have HFL := Lib.hid (flat_len d.txs hM.ids.each)
  have H0 : Hid ((w.alloc (.cells M 26)).heap[w.heap.size]? = some (.cells M 26 (0, 0))) := heap_alloc_last _ _
  have HB0 := Lib.hid (Below.allocs w (.cells M 26))
  clear hM hR
  go_enter Tryd.func10, Tryd.ntmps10
  go_wp2_with ((with_reducible refine wpAt 5 ?_); refine wpList_load_row rfl 26 _ rfl w.heap.size rfl 26 M (0, 0) _ H0.out Tryd.underlying26 rfl (infoBlk _ HMS.out) ?_)
  generalize w.alloc (.cells M 26) = w0 at *
  refine (HR.out _ (HM.out.below HB0.out)).mono ?_
  rintro e w1 ⟨rfl, hb1⟩
  have HR1 := Lib.hid (Below.keepOld hb1 H0.out)
  have HB1 := Lib.hid (HB0.out.trans (hb1.mono HB0.out.size))
  clear hb1
  go_wp2_with fail
  refine (Wr.new_any 1089 _ (by omega)).mono ?_
  rintro e w2 ⟨rfl, hw2, hb2⟩
  have HI2 : Hid (WI w1 w2 w1.heap.size (.slice none 0 0) 1089 [] 0) := ⟨hw2, hb2, fun k hk => by
    rcases hk with rfl | hk
    · exact Nat.le_refl _
    · simp [Value.ownBlock] at hk⟩
  have HR2 := Lib.hid (HM.out.parts (Below.keepOld hb2 HR1.out))
  clear hw2 hb2
  go_wp2_with ((with_reducible refine wpAt 11 ?_); refine wpList_load_mid rfl 23 _ rfl w.heap.size 0 rfl (idA d.hash).toList _ HR2.out.1 Tryd.underlying23 rfl (infoI _ (by rw [Array.length_toList, idA_size, HA.out.1])) ?_)
  rw [Array.toArray_toList]
  refine (Wr.id_any (idA d.hash) d.hash (idA_toList _) HA.out.1 _ _ _ _ _ _ HI2.out.wat (by simp)).mono ?_
  rintro e w3 ⟨rfl, hl3⟩
  rw [putS_fit (by simp [HA.out.1])] at hl3
  obtain ⟨v3, hi3⟩ := HI2.out.next hl3
  have HI3 := Lib.hid hi3
  have HR3 := Lib.hid (HM.out.parts (Below.keepOld hi3.below HR1.out))
  clear hl3 hi3
  go_wp2_with ((with_reducible refine wpAt 15 ?_); refine wpList_load_mid rfl 23 _ rfl w.heap.size 32 rfl (idA d.par).toList _ HR3.out.2.1 Tryd.underlying23 rfl (infoI _ (by rw [Array.length_toList, idA_size, HA.out.2])) ?_)
  rw [Array.toArray_toList]
  refine (Wr.id_any (idA d.par) d.par (idA_toList _) HA.out.2 _ _ _ _ _ _ HI3.out.wat (by simp [HA.out.1])).mono ?_
  rintro e w4 ⟨rfl, hl4⟩
  rw [putS_fit (by simp [HA.out.1, HA.out.2])] at hl4
  obtain ⟨v4, hi4⟩ := HI3.out.next hl4
  have HI4 := Lib.hid hi4
  have HR4 := Lib.hid (HM.out.parts (Below.keepOld hi4.below HR1.out))
  have hc4 := HR4.out.2.2
  clear hl4 hi4
  go_wp2_with fail
  refine (Wr.num_any d.txs.length 1 _ _ _ _ _ _ HI4.out.wat (by omega) (by omega) (by omega) (by simp [HA.out.1, HA.out.2])).mono ?_
  rintro e w5 ⟨rfl, hl5⟩
  have hnum : Wr.numS 1089 ([] ++ [d.hash].flatten ++ [d.par].flatten) 0 d.txs.length 1 = ([] ++ [d.hash].flatten ++ [d.par].flatten ++ [[UInt8.ofNat d.txs.length]].flatten, 0) := by
    unfold Wr.numS
    rw [if_pos ⟨by omega, by omega, .inr (by simp; omega)⟩, show (1 : Int).toNat = 1 from rfl, be1 _ (by omega), putS_fit (by simp [HA.out.1, HA.out.2])]
  rw [hnum] at hl5
  obtain ⟨v5, hi5⟩ := HI4.out.next hl5
  have HI5 := Lib.hid hi5
  have hc5 := (HM.out.parts (Below.keepOld hi5.below HR1.out)).2.2
  clear hl5 hi5 hc4 hnum
  go_wp2_with fail
  refine (Wr.ids_any q d.txs.length c d.txs _ _ _ _ _ _ HI5.out.wat (fun w' ht => HM.out.ids.below (HB1.out.trans (((HI5.out.below.trans (ht.below HI5.out.below.size HI5.out.own)).mono HB1.out.size)))) (by omega) (by simp [HA.out.1, HA.out.2])).mono ?_
  rintro e w6 ⟨rfl, hl6⟩
  rw [putS_fit (by simp [HA.out.1, HA.out.2, HFL.out]; omega)] at hl6
  obtain ⟨v6, hi6⟩ := HI5.out.next hl6
  have HI6 := Lib.hid hi6
  have HE : Hid ([] ++ [d.hash].flatten ++ [d.par].flatten ++ [[UInt8.ofNat d.txs.length]].flatten ++ d.txs.flatten = encL d) := by show _ = _; simp [encL]
  clear hl6 hi6 hc5
  go_wp2_with fail
  refine (Wr.done_any _ _ _ _ _ _ HI6.out.wat (by simp [HA.out.1, HA.out.2, HFL.out]; omega)).mono ?_
  rintro e w7 ⟨⟨p7, n7, c7, rfl, ho7⟩, hb7⟩
  have HB7 := Lib.hid (HB1.out.trans ((HI6.out.below.trans (hb7.mono HI6.out.below.size)).mono HB1.out.size))
  have HO7 := Lib.hid ho7
  have HBX : Hid (w.heap.size ≤ w6.heap.size) := (HB1.out.trans (HI6.out.below.mono HB1.out.size)).size
  clear ho7 hb7
  go_wp2_with fail
  go_ret2
  refine ⟨⟨p7, n7, c7, rfl, ?_⟩, HB7.out⟩
  have h1 := HO7.out
  rw [if_pos trivial, HE.out] at h1
  exact own_base h1 (fun k hk => Nat.le_trans HBX.out (h1.lt k hk).1)

/-! ### the example -/
def id1 (b : UInt8) : List UInt8 := b :: List.replicate 31 0
theorem zc_blk (p : Option Addr) (n c : Nat) : Tryd.zeroCells26.setIfInBounds 64 (.slice p n c) = blkA zeros zeros p n c := by kernel_rfl
theorem lit5 : idA (id1 5) = #[.int .u8 5, .int .u8 0, .int .u8 0, .int .u8 0, .int .u8 0, .int .u8 0, .int .u8 0, .int .u8 0, .int .u8 0, .int .u8 0, .int .u8 0, .int .u8 0, .int .u8 0, .int .u8 0, .int .u8 0, .int .u8 0, .int .u8 0, .int .u8 0, .int .u8 0, .int .u8 0, .int .u8 0, .int .u8 0, .int .u8 0, .int .u8 0, .int .u8 0, .int .u8 0, .int .u8 0, .int .u8 0, .int .u8 0, .int .u8 0, .int .u8 0, .int .u8 0] := by kernel_rfl
theorem build1 : Tryd.prog.built 23 [(0, .int .u8 1)] = some (idA (id1 1)) := by kernel_rfl
theorem build5 : Tryd.prog.built 23 [(0, .int .u8 5)] = some (idA (id1 5)) := by kernel_rfl
theorem buildB1 : Tryd.prog.built 26 [(0, .agg (idA (id1 1)))] = some (blkA (id1 1) zeros none 0 0) := by kernel_rfl
theorem buildB5 (p : Option Addr) (n c : Nat) : Tryd.prog.built 26 [(2, .slice p n c)] = some (blkA zeros zeros p n c) := by kernel_rfl
set_option maxRecDepth 100000 in
set_option maxHeartbeats 400000 in
theorem alive_any (w : World) : Calls Tryd.prog 9 #[] w fun e w' => e = .returned (.bool true) ∧ Below w.heap.size w w' := by
  have b1 := fun w0 => run_build (P := Tryd.prog) w0 23 #[(0, .int .u8 1)] _ build1
  have b2 := fun w0 => run_build (P := Tryd.prog) w0 26 #[(0, .agg (idA (id1 1)))] _ buildB1
  have b3 := fun w0 => run_build (P := Tryd.prog) w0 23 #[(0, .int .u8 5)] _ build5
  have b4 := fun w0 p n c => run_build (P := Tryd.prog) w0 26 #[(2, .slice p n c)] _ (buildB5 p n c)
  go_enter Tryd.func9, Tryd.ntmps9
  go_wp2_with fail
  have HM : Hid (∀ w', BlkAt w' (blkA (id1 1) zeros none 0 0) ⟨id1 1, zeros, []⟩ none 0 0) := fun w' => ⟨rfl, rfl, rfl, Is.nil _ _⟩
  refine (encode_ok _ ⟨id1 1, zeros, []⟩ none 0 0 w (HM.out w) (by omega) (fun w' hw' => right_none _ _ _ _ _ w' hw' (by decide))).mono ?_
  rintro e w1 ⟨⟨p, m, cc, rfl, ho⟩, hb1⟩
  obtain ⟨p', c', hv, hs⟩ := own_sl ho
  cases hv
  have hl : (encL ⟨id1 1, zeros, []⟩).length = m := Bs.length hs
  have h65 : m = 65 := by rw [← hl]; rfl
  subst h65
  have hm := hs.le
  have hx := hs.max
  obtain ⟨b, o, rfl⟩ := hs.addr (by omega) (by omega)
  have hc := Bs.byte hs (j := 0) (by decide)
  rw [Nat.add_zero] at hc
  have hc1 : w1.cell? ⟨b, o, none⟩ = some (.int .u8 1) := hc
  have HB1 := Lib.hid hb1
  clear hb1 ho hs hl hc
  go_wp2_with fail
  rw [zc_blk, ← lit5]
  have HMX : Hid (BlkAt (w1.alloc (.cells (idA (id1 5)) 23)) (blkA zeros zeros (some ⟨w1.heap.size, 0, none⟩) 1 1) ⟨zeros, zeros, [id1 5]⟩ (some ⟨w1.heap.size, 0, none⟩) 1 1) :=
    ⟨rfl, rfl, rfl, ⟨by simpa using made_id w1 (id1 5) _ 23 (idA_toList _) rfl, fun x hx => by simp at hx; subst hx; rfl, rfl⟩⟩
  refine (has_any _ ⟨zeros, zeros, [id1 5]⟩ _ 1 1 (id1 5) _ HMX.out rfl (by omega)).mono ?_
  rintro e w2 ⟨rfl, hb2⟩
  have HB2 := Lib.hid ((HB1.out.alloc HB1.out.size _).trans (hb2.mono (by have := HB1.out.size; simp; omega)))
  clear hb2
  go_wp2_with fail
  go_ret
  exact ⟨rfl, HB2.out⟩
end Go.Proofs.YtdaigkcbmdcbcaaDoor.Blk
