/- CRC: the walk of the statement CrcTurned. -/
import Derived.Test.YtipmjhlhjnbhoaaCrcWalk
import Derived.BigRegion
import Derived.Laws.ShiftsVar
namespace Go.Proofs.Ytipmjhlhjnbhoaa.CrcW
open Go.RowKit Go.Mir

theorem infoB : (Try.prog.info? 5).map (fun i => (i.zero, i.size, i.bytes)) = some (some (.int .u8 0), 1, 1) := by kernel_rfl

theorem bit_int (x : BitVec 32) (k : Nat) : (((x.toNat : Int) / 2 ^ k).tmod 2 == 1) = x.getLsbD k := by
  have e : ((x.toNat : Int) / 2 ^ k) = ((x.toNat / 2 ^ k : Nat) : Int) := by
    rw [Int.natCast_ediv, Int.natCast_pow]; rfl
  rw [e, Int.tmod_eq_emod_of_nonneg (Int.natCast_nonneg _)]
  rw [BitVec.getLsbD, Nat.testBit_eq_decide_div_mod_eq]
  by_cases h : x.toNat / 2 ^ k % 2 = 1
  · rw [h, beq_iff_eq.2 (show (((x.toNat / 2 ^ k : Nat) : Int) % 2) = 1 by omega)]; rfl
  · rw [decide_eq_false h, beq_eq_false_iff_ne]; omega

def flipped (y : UInt8) (r : Nat) : UInt8 := UInt8.ofNat (y.toNat ^^^ 2 ^ r)
theorem flipped_toNat (y : UInt8) (r : Nat) (hr : r < 8) : (flipped y r).toNat = y.toNat ^^^ 2 ^ r := by
  have h1 : (2 : Nat) ^ r < 2 ^ 8 := Nat.pow_lt_pow_right (by omega) hr
  have h2 : y.toNat ^^^ 2 ^ r < 2 ^ 8 := Nat.xor_lt_two_pow y.toNat_lt h1
  rw [flipped, UInt8.toNat_ofNat']
  exact Nat.mod_eq_of_lt h2
theorem flip_int (y : UInt8) (r : Nat) (hr : r < 8) : bits BinOp.xor IntKind.u8 (y.toNat : Int) (2 ^ r % 256) = ((flipped y r).toNat : Int) := by
  have h1 : (2 : Nat) ^ r < 2 ^ 8 := Nat.pow_lt_pow_right (by omega) hr
  have e : ((2 : Int) ^ r % 256) = ((2 ^ r : Nat) : Int) := by
    rw [Int.natCast_pow]
    have h3 : ((2 ^ r : Nat) : Int) = (2 : Int) ^ r := Int.natCast_pow 2 r
    rw [show ((2 : Nat) : Int) = 2 from rfl, ← h3]
    exact Int.emod_eq_of_lt (Int.natCast_nonneg _) (by omega)
  rw [e, u8_xor_nat _ _ y.toNat_lt (by omega), flipped_toNat y r hr]
theorem bits_set (m : List UInt8) (t : Nat) (ht : t / 8 < m.length) (j : Nat) : Crc.bitAt (m.set (t / 8) (flipped m[t / 8] (t % 8))) j = (Crc.bitAt m j ^^ decide (j = t)) := by
  unfold Crc.bitAt
  by_cases h : j / 8 = t / 8
  · have e1 : (m.set (t / 8) (flipped m[t / 8] (t % 8))).getD (j / 8) 0 = flipped m[t / 8] (t % 8) := by
      rw [h]; simp [ht]
    have e2 : m.getD (j / 8) 0 = m[t / 8] := by rw [h]; simp [ht]
    rw [e1, e2, flipped_toNat _ _ (by omega), Nat.testBit_xor, Nat.testBit_two_pow]
    congr 1
    have : (t % 8 = j % 8) ↔ (j = t) := by omega
    simp [this]
  · have e1 : (m.set (t / 8) (flipped m[t / 8] (t % 8))).getD (j / 8) 0 = m.getD (j / 8) 0 := by
      simp [List.getElem?_set, Ne.symm h]
    rw [e1, decide_eq_false (fun e => h (by rw [e]))]
    simp
theorem bytesV_set (m : List UInt8) (j : Nat) (y : UInt8) : bytesV (m.set j y) = (bytesV m).set j (.int .u8 (y.toNat : Int)) := by simp [bytesV, List.map_set]

set_option maxRecDepth 100000 in
set_option maxHeartbeats 400000 in
theorem turned_any (p : Option Addr) (n c : Nat) (l : List UInt8) (at_ : Nat) (by_ : BitVec 32) (w : World) (h : Bs w p n c l) (hat : at_ < 65536) (h5 : 5 ≤ n) (h500 : n ≤ 500) (hby : by_ ≠ 0#32) :
    Calls Try.prog 3 #[.slice p n c, .int .u16 at_, .int .u32 (by_.toNat : Int)] w fun e w' => e = .returned (.bool true) ∧ Below w.heap.size w w' := by
  have hlen := h.length
  have hle := h.le
  have hmax := h.max
  have hby0 : (((by_.toNat : Nat) : Int) == 0) = false := by
    rw [beq_eq_false_iff_ne]; intro h0; apply hby; apply BitVec.eq_of_toNat_eq; simpa using h0
  have hb32 := lt32 by_
  obtain ⟨b, o, rfl⟩ := h.addr (by omega) (by omega)
  have HB := Lib.hid h
  clear h
  go_enter Try.func3, Try.ntmps3
  go_wp2_with (at_builtin; refine wpList_append_sl rfl _ _ 22 rfl (base := w.heap.size) Try.underlying22 infoB rfl (by omega) rfl (World.ownsRow_made w #[] 0 (Nat.le_refl _) (by simp [maxLen]) rfl) rfl (HB.out.below (Below.allocs _ _)) (bytesV_one l) (by omega) (by simp) ?_)
  intro v' w1 hown hg hbl hne
  obtain ⟨g, cap, hv, hgb, hgc, hgm⟩ := own_some hown hne
  subst hv
  have HBL : Hid (Below w.heap.size w w1) := (Below.allocs _ _).trans hbl
  have HOW := Lib.hid hown
  clear hne hg hbl hown
  go_wp2
  obtain ⟨bit, hbit⟩ : ∃ bit : Nat, (at_ : Int) % (8 * (n : Int) - 31) = (bit : Int) := ⟨((at_ : Int) % (8 * (n : Int) - 31)).toNat, by rw [Int.toNat_of_nonneg (Int.emod_nonneg _ (by omega))]⟩
  have hbit2 : bit + 32 ≤ 8 * n := by have := Int.emod_lt_of_pos (at_ : Int) (show (0 : Int) < 8 * (n : Int) - 31 by omega); omega
  rw [hbit]
  clear hbit
  go_loopw [9] (fun i wr => ∃ k : Nat, ∃ m : List UInt8, k ≤ 32 ∧ i = .int .i64 k ∧ m.length = n ∧ wr.ownsRow w.heap.size 5 1 (.slice (some ⟨g, 0, none⟩) n cap) n (bytesV m) ∧ Below w.heap.size w wr ∧ Hid (∀ j, j < 8 * n → Crc.bitAt m j = (Crc.bitAt l j ^^ (decide (bit ≤ j ∧ j < bit + k) && by_.getLsbD (j - bit))))) (fun i _ => 32 - (intOf i).toNat)
  case atStart => exact ⟨0, l, by omega, rfl, hlen, HOW.out, HBL.out, fun j _ => by rw [decide_eq_false (by omega)]; simp⟩
  case round =>
    obtain ⟨k, m, hk, rfl, hm, how, hbl, hbits⟩ := hrel
    have HOW' := Lib.hid how
    have HBL' := Lib.hid hbl
    clear how hbl HOW HBL
    by_cases hlt : k < 32
    · have hd : decide ((k:Int) < 32) = true := by simp; omega
      by_cases hbk : by_.getLsbD k = true
      · have ht : (((by_.toNat : Int) / 2 ^ k).tmod 2 == 1) = true := by rw [bit_int, hbk]
        have hj : (bit + k) / 8 < n := by omega
        have hc := HOW'.out.cellAt ((bit + k) / 8) (by omega)
        rw [bytesV_get m _ (by omega)] at hc
        have hf := HOW'.out.frozenAt ((bit + k) / 8)
        have hy := (m[(bit + k) / 8]'(by omega)).toNat_lt
        generalize hyy : m[(bit + k) / 8]'(by omega) = y at *
        have HY := Lib.hid hyy
        clear hyy
        go_wp2
        go_region
        go_wp2
        go_roundw
        case rel =>
          rw [flip_int y _ (by omega)]
          have hst := HOW'.out.stored ((bit + k) / 8) (.int .u8 ((flipped y ((bit + k) % 8)).toNat : Int))
          refine ⟨k + 1, m.set ((bit + k) / 8) (flipped y ((bit + k) % 8)), by omega, by go_num, by simp [hm], ?_, (HBL'.out.setCell (by simpa using hgb) _).drew, ?_⟩
          · rw [bytesV_set]; exact hst.1.drew
          · intro j hj
            rw [← HY.out, bits_set m (bit + k) (by omega) j, hbits j hj]
            by_cases e : j = bit + k
            · subst e; simp [hbk]
            · have : (bit ≤ j ∧ j < bit + (k + 1)) ↔ (bit ≤ j ∧ j < bit + k) := by omega
              simp [e, this]
        case measure => simp [intOf]; omega
      · have hbk' : by_.getLsbD k = false := by simpa using hbk
        have ht : (((by_.toNat : Int) / 2 ^ k).tmod 2 == 1) = false := by rw [bit_int, hbk']
        go_wp2
        go_roundw
        case rel =>
          refine ⟨k + 1, m, by omega, by go_num, hm, HOW'.out, HBL'.out, ?_⟩
          intro j hj
          rw [hbits j hj]
          by_cases e : j = bit + k
          · subst e; simp [hbk']
          · have : (bit ≤ j ∧ j < bit + (k + 1)) ↔ (bit ≤ j ∧ j < bit + k) := by omega
            simp [this]
        case measure => simp [intOf]; omega
    · obtain rfl : k = 32 := by omega
      obtain ⟨_, _, he, hSm⟩ := own_sl HOW'.out
      cases he
      have hdiff : Crc.run Crc.ones m ≠ Crc.run Crc.ones l := by
        refine Crc.burst l m (by omega) bit by_ hby (by omega) (fun j hj => ?_) _
        rw [hbits j (by omega)]
        by_cases e : j < bit + 32
        · have : (bit ≤ j ∧ j < bit + 32) ↔ bit ≤ j := by omega
          simp [this]
        · have h0 : by_.getLsbD (j - bit) = false := BitVec.getLsbD_of_ge _ _ (by omega)
          simp [h0]
      have hne : Crc.more 0#32 m ≠ Crc.more 0#32 l := by
        intro he
        apply hdiff
        have := congrArg (· ^^^ Crc.ones) he
        simp only [Crc.more, Crc.xx] at this
        simpa using this
      have HSm : Hid (Bs wr (some ⟨g, 0, none⟩) n cap m) := hSm
      have HSl : Hid (Bs wr (some ⟨b, o, none⟩) n c l) := HB.out.below HBL'.out
      have hm1 : ([m].flatten) = m := by simp
      have hl1 : ([l].flatten) = l := by simp
      have HNE := Lib.hid hne
      have HM1 := Lib.hid hm1
      have HL1 := Lib.hid hl1
      clear hdiff hne hm1 hl1 hSm
      have hneq : ((((Crc.more 0#32 m).toNat : Nat) : Int) != (((Crc.more 0#32 l).toNat : Nat) : Int)) = true := by
        rw [bne_iff_ne]; intro he; exact HNE.out (BitVec.eq_of_toNat_eq (by omega))
      generalize hA : (Crc.more 0#32 m).toNat = A at *
      generalize hC : (Crc.more 0#32 l).toNat = C at *
      have HA := Lib.hid hA
      have HC := Lib.hid hC
      clear hA hC
      go_wp2_with fail
      refine (of_any _ _ _ [m] _ (Pts.made1 HSm.out _ (by simp))).mono ?_
      rintro e w2 ⟨rfl, hb2⟩
      rw [HM1.out, HA.out]
      have HB2 : Hid (Below wr.heap.size wr w2) := (Below.allocs _ _).trans (hb2.mono (by simp))
      clear hb2
      go_wp2_with fail
      refine (of_any _ _ _ [l] _ (Pts.made1 (HSl.out.below HB2.out) _ (by simp))).mono ?_
      rintro e w3 ⟨rfl, hb3⟩
      rw [HL1.out, HC.out]
      have HB3 : Hid (Below wr.heap.size wr w3) := HB2.out.trans (((Below.allocs _ _).trans (hb3.mono (by simp))).mono HB2.out.size)
      clear hb3
      go_wp2_with fail
      refine (of_any _ _ _ [m] _ (Pts.made1 (HSm.out.below HB3.out) _ (by simp))).mono ?_
      rintro e w4 ⟨rfl, hb4⟩
      rw [HM1.out, HA.out]
      have HB4 : Hid (Below wr.heap.size wr w4) := HB3.out.trans (((Below.allocs _ _).trans (hb4.mono (by simp))).mono HB3.out.size)
      clear hb4
      go_wp2_with fail
      refine (refOf_any _ _ _ m _ (HSm.out.below HB4.out)).mono ?_
      rintro e w5 ⟨rfl, rfl⟩
      rw [HA.out]
      go_wp2_with fail
      refine (alive_any _).mono ?_
      rintro e w6 ⟨rfl, hb6⟩
      have HB6 : Hid (Below wr.heap.size wr w6) := HB4.out.trans (hb6.mono HB4.out.size)
      clear hb6
      go_wp2_with fail
      go_ret
      exact ⟨rfl, HBL'.out.trans (HB6.out.mono HBL'.out.size)⟩

theorem turned_out (p : Option Addr) (n c : Nat) (l : List UInt8) (at_ : Nat) (by_ : BitVec 32) (w : World) (h : Bs w p n c l) (hat : at_ < 65536) (hor : n < 5 ∨ 500 < n ∨ by_ = 0#32) :
    Calls Try.prog 3 #[.slice p n c, .int .u16 at_, .int .u32 (by_.toNat : Int)] w fun e w' => e = .returned (.bool true) ∧ Below w.heap.size w w' := by
  have hlen := h.length
  have hle := h.le
  have hmax := h.max
  have hb32 := lt32 by_
  by_cases h1 : 500 < n
  · go_enter Try.func3, Try.ntmps3
    go_wp2_with (go_at_call 7; refine (alive_any _).mono ?_; rintro e w1 ⟨rfl, hb1⟩)
    go_ret
    exact ⟨rfl, hb1⟩
  by_cases h2 : n < 5
  · go_enter Try.func3, Try.ntmps3
    go_wp2_with (go_at_call 7; refine (alive_any _).mono ?_; rintro e w1 ⟨rfl, hb1⟩)
    go_ret
    exact ⟨rfl, hb1⟩
  · have h0 : by_.toNat = 0 := by
      rcases hor with h | h | h
      · omega
      · omega
      · rw [h]; rfl
    have hz : (((by_.toNat : Nat) : Int) == 0) = true := by rw [h0]; rfl
    clear h0
    go_enter Try.func3, Try.ntmps3
    go_wp2_with (go_at_call 7; refine (alive_any _).mono ?_; rintro e w1 ⟨rfl, hb1⟩)
    go_ret
    exact ⟨rfl, hb1⟩
end Go.Proofs.Ytipmjhlhjnbhoaa.CrcW
