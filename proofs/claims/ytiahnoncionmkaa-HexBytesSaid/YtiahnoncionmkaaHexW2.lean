/- LAYER 12: the walks of bytes told and read, both ways. Conditions: bytes and texts of at most 2^40. -/
import Derived.Test.YtiahnoncionmkaaHexW
import Derived.Test.YtiahnoncionmkaaStr
namespace Go.Proofs.Ytiahnoncionmkaa.HexW
open Go.RowKit Bld Go.Mir Go.Mir.Hx Go.Mir.Parts

theorem text_any (p : Option Addr) (n c : Nat) (l : List UInt8) (w : World) (h : Bs w p n c l) (hn : n ≤ 1099511627776) :
    Calls Try.prog 11 #[.slice p n c] w fun e w' => e = .returned (.string (S (textL l))) ∧ Below w.heap.size w w' := by
  have H := Lib.hid h
  have hl := h.length
  clear h
  by_cases h0 : n = 0
  · have HL : Hid (textL l = [45]) := by show _ = _; unfold textL; rw [if_pos (List.length_eq_zero_iff.1 (by omega))]
    have hb : ((n : Int) == 0) = true := by rw [beq_iff_eq]; omega
    clear hl h0
    go_enter Try.func11, Try.ntmps11
    go_wp2_with fail
    go_ret
    exact ⟨by rw [HL.out]; rfl, Below.refl _ _⟩
  · have HL : Hid (textL l = pairsL l) := by show _ = _; unfold textL; rw [if_neg (fun e => h0 (by rw [← hl, e]; rfl))]
    have hb : ((n : Int) == 0) = false := by rw [beq_eq_false_iff_ne]; omega
    clear hl
    go_enter Try.func11, Try.ntmps11
    go_wp2_with fail
    refine (pairs_any _ _ _ l _ H.out hn (by omega)).mono ?_
    rintro e w1 ⟨rfl, hb1⟩
    have HB := Lib.hid hb1
    clear hb1
    go_wp2_with fail
    go_ret
    exact ⟨by rw [HL.out]; rfl, HB.out⟩

/-- what is left of a text read -/
def BytesP (l : List UInt8) (w : World) (e : Ending) (w' : World) : Prop := Below w.heap.size w w' ∧ ((∃ b p c, bytesL l = some b ∧ e = .returned (.tuple #[.slice p b.length c, .int .i64 0]) ∧ Bs w' p b.length c b ∧ (∀ a, p = some a → w.heap.size ≤ a.block)) ∨ (bytesL l = none ∧ e = .returned (.tuple #[.slice none 0 0, .int .i64 4])))
theorem bytes_any (l : List UInt8) (w : World) (hl : l.length ≤ 1099511627776) : Calls Try.prog 12 #[.string (S l)] w (BytesP l w) := by
  by_cases h0 : l = [45]
  · have HR : Hid (bytesL l = some []) := by show _ = _; unfold bytesL; rw [if_pos h0]
    have hb : (l == [45]) = true := by rw [beq_iff_eq]; exact h0
    clear h0
    go_enter Try.func12, Try.ntmps12
    go_wp2_with fail
    go_ret2
    exact ⟨Below.refl _ _, .inl ⟨[], none, 0, HR.out, rfl, Sl.nil _ _, fun a ha => by cases ha⟩⟩
  · have HR : Hid (bytesL l = if l = [] then none else readL l) := by show _ = _; unfold bytesL; rw [if_neg h0]
    have hb : (l == [45]) = false := by rw [beq_eq_false_iff_ne]; exact h0
    clear h0
    go_enter Try.func12, Try.ntmps12
    go_wp2_with fail
    refine (read_any (S l) _ (by rw [S_size]; exact hl)).mono ?_
    rw [S_data]
    rintro e w1 ⟨hb1, ⟨b, p, c, hr, hne, rfl, hB, hp⟩ | ⟨hr, v, rfl⟩⟩
    · have HB := Lib.hid hb1
      have HR1 : Hid (bytesL l = some b) := by show _ = _; rw [HR.out, if_neg hne]; exact hr
      have HS := Lib.hid hB
      have HP := Lib.hid hp
      clear hb1 hr hne hB hp
      go_wp2_with fail
      go_ret2
      exact ⟨HB.out, .inl ⟨b, p, c, HR1.out, rfl, HS.out, HP.out⟩⟩
    · have HB := Lib.hid hb1
      have HR1 : Hid (bytesL l = none) := by
        show _ = _; rw [HR.out]
        split
        · rfl
        · rename_i hx; rcases hr with h | h
          · exact h
          · exact absurd h hx
      clear hb1 hr
      go_wp2_with fail
      go_ret2
      exact ⟨HB.out, .inr ⟨HR1.out, rfl⟩⟩

/-! ### the reference's -/
theorem half_ex (n : Nat) (hn : n < 16) : (⟨#[48, 49, 50, 51, 52, 53, 54, 55, 56, 57, 97, 98, 99, 100, 101, 102]⟩ : ByteArray).extract n (n + 1) = S [sgn n] := by
  have key : ∀ j : Fin 16, (⟨#[48, 49, 50, 51, 52, 53, 54, 55, 56, 57, 97, 98, 99, 100, 101, 102]⟩ : ByteArray).extract j.val (j.val + 1) = S [sgn j.val] := by decide
  exact key ⟨n, hn⟩
theorem str_ret {a b : ByteArray} (h : a = b) : Ending.returned (.string a) = .returned (.string b) := by rw [h]
theorem half_any (n : Nat) (w : World) (hn : n < 16) : Calls Try.prog 21 #[.int .i64 (n : Int)] w fun e w' => e = .returned (.string (S [sgn n])) ∧ w = w' := by
  go_enter Try.func21, Try.ntmps21
  go_wp2
  go_ret
  exact ⟨str_ret (half_ex n hn), rfl⟩
theorem sgn_inj {c : UInt8} {n : Nat} (h : sgn n = c) (hn : n < 16) : dig c.toNat = some n := by rw [← h, dig_sgn n hn]
def digV : Option Nat → Int
  | some n => (n : Int)
  | none => -1
theorem digit_any (c : UInt8) (w : World) : Calls Try.prog 22 #[.int .u8 (c.toNat : Int)] w fun e w' => e = .returned (.int .i64 (digV (dig c.toNat))) ∧ w = w' := by
  go_enter Try.func22, Try.ntmps22
  go_wp2
  go_loop [3] (fun j => ∃ k : Nat, k ≤ 16 ∧ j = .int .i64 k ∧ ∀ i, i < k → sgn i ≠ c) (fun j => 16 - (intOf j).toNat)
  case atStart => exact ⟨0, by omega, rfl, fun i h => by omega⟩
  case round =>
    obtain ⟨k, hk, rfl, hne⟩ := hrel
    have HN := Lib.hid hne
    clear hne
    by_cases hlt : k < 16
    · by_cases hc : sgn k = c
      · have HR := Lib.hid (sgn_inj hc hlt)
        have hb : ((((⟨#[48, 49, 50, 51, 52, 53, 54, 55, 56, 57, 97, 98, 99, 100, 101, 102]⟩ : ByteArray)[k]'hlt).toNat : Int) == (c.toNat : Int)) = true := by rw [signs_at k hlt, hc]; simp
        clear hc
        go_wp2
        go_ret
        rw [HR.out]
        exact ⟨rfl, rfl⟩
      · have hb : ((((⟨#[48, 49, 50, 51, 52, 53, 54, 55, 56, 57, 97, 98, 99, 100, 101, 102]⟩ : ByteArray)[k]'hlt).toNat : Int) == (c.toNat : Int)) = false := by
          rw [signs_at k hlt, beq_eq_false_iff_ne]
          intro e; exact hc (UInt8.toNat_inj.1 (by omega))
        have HC := Lib.hid hc
        clear hc
        go_wp2
        go_round
        case rel => exact ⟨k + 1, by omega, by go_num, fun i hi => by
          by_cases e : i = k
          · rw [e]; exact HC.out
          · exact HN.out i (by omega)⟩
        case measure => simp [intOf]; omega
    · have HR : Hid (dig c.toNat = none) := by
        show _ = _
        cases hd : dig c.toNat with
        | none => rfl
        | some n => exact absurd (sgn_dig hd) (HN.out n (by have := dig_lt hd; omega))
      go_wp2
      go_ret
      rw [HR.out]
      exact ⟨rfl, rfl⟩
theorem half_int (a : Int) (w : World) (h0 : 0 ≤ a) (h1 : a < 16) : Calls Try.prog 21 #[.int .i64 a] w fun e w' => e = .returned (.string (S [sgn a.toNat])) ∧ w' = w := by
  obtain ⟨n, rfl⟩ := Int.eq_ofNat_of_zero_le h0
  rw [Int.toNat_natCast]
  exact (half_any n w (by omega)).mono fun _ _ h => ⟨h.1, h.2.symm⟩

theorem w2_drew (B : Nat) (w : World) (n : Nat) : Below B w (w.drewN n) := ⟨rfl, rfl, rfl, Nat.le_refl _, fun _ _ => rfl⟩
set_option maxRecDepth 100000 in
theorem rText_any (p : Option Addr) (n c : Nat) (l : List UInt8) (w : World) (h : Bs w p n c l) (hn : n ≤ 1099511627776) :
    Calls Try.prog 13 #[.slice p n c] w fun e w' => e = .returned (.string (S (textL l))) ∧ Below w.heap.size w w' := by
  have H := Lib.hid h
  have hl := h.length
  have hcm := h.max
  have hnc := h.le
  clear h
  by_cases h0 : n = 0
  · have HL : Hid (textL l = [45]) := by show _ = _; unfold textL; rw [if_pos (List.length_eq_zero_iff.1 (by omega))]
    have hb : ((n : Int) == 0) = true := by rw [beq_iff_eq]; omega
    clear hl h0
    go_enter Try.func13, Try.ntmps13
    go_wp2_with fail
    go_ret
    exact ⟨by rw [HL.out]; rfl, Below.refl _ _⟩
  · have HL : Hid (textL l = pairsL l) := by show _ = _; unfold textL; rw [if_neg (fun e => h0 (by rw [← hl, e]; rfl))]
    have hb : ((n : Int) == 0) = false := by rw [beq_eq_false_iff_ne]; omega
    have HLE := Lib.hid hl
    clear hl
    go_enter Try.func13, Try.ntmps13
    go_wp2_with fail
    go_loopw [3, 4] (fun s j wr => ∃ k : Nat, k ≤ n ∧ j = .int .i64 k ∧ s = .string (S (pairsL (l.take k))) ∧ Below w.heap.size w wr) (fun _ j _ => n - (intOf j).toNat)
    case atStart => exact ⟨0, by omega, rfl, rfl, Below.refl _ _⟩
    case round =>
      obtain ⟨k, hk, rfl, rfl, hb1⟩ := hrel
      have HB := Lib.hid hb1
      have HPL := Lib.hid (pairsL_length (l.take k))
      have hpl : (pairsL (l.take k)).length ≤ 2199023255552 := by rw [HPL.out, List.length_take]; omega
      by_cases hlt : k < n
      · obtain ⟨b, o, rfl⟩ := H.out.addr (by omega) (by omega)
        have hc := Bs.byte (H.out.below hb1) (j := k) (by rw [HLE.out]; omega)
        have HTK := Lib.hid (take_snoc l k (by rw [HLE.out]; omega))
        have hd : decide ((k : Int) < (n : Int)) = true := by simp; omega
        have hx := (l[k]'(by rw [HLE.out]; omega)).toNat_lt
        generalize l[k]'(by rw [HLE.out]; omega) = x at *
        generalize hX : pairsL (l.take k) = X at *
        have HX := Lib.hid hX
        clear hb1 hX
        go_wp2_with fail
        go_quiet ((go_at_call 21; exact Calls.quiet_of_same (half_int _ _ (by omega) (by omega))))
        go_wp2_with fail
        go_roundw
        case rel =>
          refine ⟨k + 1, by omega, by go_num, ?_, HB.out.trans (w2_drew _ _ _)⟩
          rw [HTK.out, pairsL_snoc, HX.out, List.append_assoc]
          try rfl
        case measure => simp [intOf]; omega
      · have hk' : k = l.length := by have := HLE.out; omega
        have HX : Hid (pairsL (l.take k) = pairsL l) := by show _ = _; rw [hk', List.take_length]
        have hd : decide ((k : Int) < (n : Int)) = false := by simp; omega
        clear hb1 hk' hpl
        go_wp2_with fail
        go_ret
        exact ⟨str_ret (congrArg S (HX.out.trans HL.out.symm)), HB.out⟩

/-! ### the reference's bytes -/
set_option maxRecDepth 100000 in
theorem rBytes_any (l : List UInt8) (w : World) (hl : l.length ≤ 1099511627776) : Calls Try.prog 14 #[.string (S l)] w (BytesP l w) := by
  by_cases h0 : l = [45]
  · have HR : Hid (bytesL l = some []) := by show _ = _; unfold bytesL; rw [if_pos h0]
    have hb : (l == [45]) = true := by rw [beq_iff_eq]; exact h0
    clear h0
    go_enter Try.func14, Try.ntmps14
    go_wp2_with fail
    go_ret2
    exact ⟨Below.refl _ _, .inl ⟨[], none, 0, HR.out, rfl, Sl.nil _ _, fun a ha => by cases ha⟩⟩
  · have hb : (l == [45]) = false := by rw [beq_eq_false_iff_ne]; exact h0
    by_cases h1 : l.length = 0
    · have HR : Hid (bytesL l = none) := by show _ = _; unfold bytesL; rw [if_neg h0, if_pos (List.length_eq_zero_iff.1 h1)]
      have hb1 : ((l.length : Int) == 0) = true := by rw [beq_iff_eq]; omega
      clear h0 h1
      go_enter Try.func14, Try.ntmps14
      go_wp2_with fail
      go_ret2
      exact ⟨Below.refl _ _, .inr ⟨HR.out, rfl⟩⟩
    · have hb1 : ((l.length : Int) == 0) = false := by rw [beq_eq_false_iff_ne]; omega
      have HR : Hid (bytesL l = readL l) := by show _ = _; unfold bytesL; rw [if_neg h0, if_neg (fun e => h1 (by rw [e]; rfl))]
      by_cases h2 : l.length % 2 = 1
      · have HN : Hid (bytesL l = none) := by show _ = _; rw [HR.out]; exact readL_odd l h2
        have hb2 : ((l.length : Int) % 2 == 1) = true := by rw [beq_iff_eq]; omega
        clear h0 h1 h2
        go_enter Try.func14, Try.ntmps14
        go_wp2_with fail
        go_ret2
        exact ⟨Below.refl _ _, .inr ⟨HN.out, rfl⟩⟩
      · have hb2 : ((l.length : Int) % 2 == 1) = false := by rw [beq_eq_false_iff_ne]; omega
        have HE := Lib.hid h2
        clear h0 h1 h2
        go_enter Try.func14, Try.ntmps14
        go_wp2_with fail
        go_loopw [4, 5] (fun o j wr => ∃ (k : Nat) (b : List UInt8) (p : Option Addr) (c : Nat), 2 * k ≤ l.length ∧ j = .int .i64 ((2 * k : Nat) : Int) ∧ readL (l.take (2 * k)) = some b ∧ b.length = k ∧ o = .slice p b.length c ∧
          wr.ownsRow w.heap.size 5 1 (.slice p b.length c) b.length (bytesV b) ∧ Below w.heap.size w wr) (fun _ j _ => l.length - (intOf j).toNat)
        case atStart => exact ⟨0, [], none, 0, by omega, rfl, rfl, rfl, rfl, ⟨rfl, .inl ⟨rfl, rfl⟩⟩, Below.refl _ _⟩
        case round =>
          obtain ⟨k, b, p, c, hk, rfl, hr, hbl, rfl, hown, hb3⟩ := hrel
          have HRD := Lib.hid hr
          have HBL := Lib.hid hbl
          have HOW := Lib.hid hown
          have HB := Lib.hid hb3
          have hbl' : b.length ≤ 1099511627776 := by omega
          clear hr hbl hown hb3
          by_cases hlt : 2 * k < l.length
          · have hlt2 : 2 * k + 1 < l.length := by have := HE.out; omega
            have hd : decide (((2 * k : Nat) : Int) < (l.length : Int)) = true := by simp; omega
            have HTK : Hid (l.take (2 * (k + 1)) = l.take (2 * k) ++ [l[2 * k], l[2 * k + 1]]) := by
              show _ = _
              rw [show 2 * (k + 1) = 2 * k + 1 + 1 by omega, take_snoc l (2 * k + 1) (by omega), take_snoc l (2 * k) (by omega), List.append_assoc]; rfl
            have HAP : Hid (readL (l.take (2 * (k + 1))) = (readL [l[2 * k], l[2 * k + 1]]).map fun y => b ++ y) := by
              show _ = _
              rw [HTK.out, readL_append _ _ (by rw [List.length_take]; omega), HRD.out]; rfl
            have HALL : Hid (readL (l.take (2 * (k + 1))) = none → readL l = none) := fun h => by
              have h3 := readL_append (l.take (2 * (k + 1))) (l.drop (2 * (k + 1))) (by rw [List.length_take]; omega)
              rw [List.take_append_drop, h] at h3
              exact h3
            cases ha : dig (l[2 * k]).toNat with
            | none =>
              have HA := Lib.hid ha
              have HNONE : Hid (bytesL l = none) := by
                show _ = _; rw [HR.out]
                exact HALL.out (by rw [HAP.out, readL_two, ha]; rfl)
              clear ha
              go_wp2_with fail
              refine (digit_any _ _).mono ?_
              rintro e w' ⟨rfl, rfl⟩
              rw [HA.out]
              simp only [digV]
              go_wp2_with fail
              refine (digit_any _ _).mono ?_
              rintro e w' ⟨rfl, rfl⟩
              generalize digV (dig (l[2 * k + 1]).toNat) = B
              go_wp2_with fail
              go_ret2
              exact ⟨HB.out, .inr ⟨HNONE.out, rfl⟩⟩
            | some x =>
              have HA := Lib.hid ha
              have hx := dig_lt ha
              cases hy : dig (l[2 * k + 1]).toNat with
              | none =>
                have HY := Lib.hid hy
                have HNONE : Hid (bytesL l = none) := by
                  show _ = _; rw [HR.out]
                  exact HALL.out (by rw [HAP.out, readL_two, ha, hy]; rfl)
                clear ha hy
                go_wp2_with fail
                refine (digit_any _ _).mono ?_
                rintro e w' ⟨rfl, rfl⟩
                rw [HA.out]
                simp only [digV]
                go_wp2_with fail
                refine (digit_any _ _).mono ?_
                rintro e w' ⟨rfl, rfl⟩
                rw [HY.out]
                simp only [digV]
                go_wp2_with fail
                go_ret2
                exact ⟨HB.out, .inr ⟨HNONE.out, rfl⟩⟩
              | some y =>
                have HY := Lib.hid hy
                have hy16 := dig_lt hy
                have HRN : Hid (readL (l.take (2 * (k + 1))) = some (b ++ [UInt8.ofNat (16 * x + y)])) := by
                  show _ = _
                  rw [HAP.out, readL_two, ha, hy]; rfl
                obtain ⟨z, hz⟩ : ∃ z, z = UInt8.ofNat (16 * x + y) := ⟨_, rfl⟩
                have hw : IntKind.u8.wrap (16 * (x : Int) + (y : Int)) = (z.toNat : Int) := by
                  rw [hz, UInt8.toNat_ofNat', Nat.mod_eq_of_lt (by omega)]
                  simp [IntKind.wrap, IntKind.signed, IntKind.bits]; omega
                have HZ := Lib.hid hz
                have HS : Hid (Bs (wr.alloc (.cells #[.int .u8 (z.toNat : Int)] 5)) (some ⟨wr.heap.size, 0, none⟩) 1 1 [z]) := Bs.made _ [z] _ _ _ 1 rfl rfl (by omega)
                have HOX : Hid ((wr.alloc (.cells #[.int .u8 (z.toNat : Int)] 5)).ownsRow w.heap.size 5 1 (.slice p b.length c) b.length (bytesV b)) := HOW.out.alloc _
                have hbs := HB.out.size
                clear ha hy hz
                go_wp2_with fail
                refine (digit_any _ _).mono ?_
                rintro e w' ⟨rfl, rfl⟩
                rw [HA.out]
                simp only [digV]
                go_wp2_with fail
                refine (digit_any _ _).mono ?_
                rintro e w' ⟨rfl, rfl⟩
                rw [HY.out]
                simp only [digV]
                go_wp2_with (at_builtin; refine wpList_append_nx rfl _ _ 30 rfl (base := w.heap.size) Try.underlying30 infoB rfl (by omega) rfl HOX.out rfl HS.out (bytesV_one _) (by omega) (by simp; omega) ?_)
                intro p' c' w3 hown hg _ _
                have hb3 : Below w.heap.size w w3 := (HB.out.alloc hbs _).grown hg (by simp; omega) (fun i hi => (HOX.out.lt i hi).1)
                have HO3 := Lib.hid hown
                have HB3 := Lib.hid hb3
                clear hown hg hb3 hw
                go_wp2_with fail
                go_roundw
                case rel =>
                  refine ⟨k + 1, b ++ [z], p', c', by omega, by go_num, by rw [HZ.out]; exact HRN.out, by rw [List.length_append, HBL.out]; rfl, by rw [List.length_append]; rfl, ?_, HB3.out⟩
                  have := HO3.out
                  rw [List.length_append, List.length_singleton, bytesV_append]
                  exact this
                case measure => simp [intOf]; omega
          · have hk' : 2 * k = l.length := by omega
            have HBY : Hid (bytesL l = some b) := by
              show _ = _
              have := HRD.out
              rw [hk', List.take_length] at this
              rw [HR.out, this]
            have hd : decide (((2 * k : Nat) : Int) < (l.length : Int)) = false := by simp; omega
            clear hk'
            go_wp2_with fail
            go_ret2
            refine ⟨HB.out, .inl ⟨b, p, c, HBY.out, rfl, ?_, ?_⟩⟩
            · obtain ⟨p', c', e', hs'⟩ := own_sl HOW.out
              cases e'; exact hs'
            · intro a ha
              subst ha
              obtain ⟨g, cap, e', hg, _⟩ := own_some HOW.out (by simp)
              cases e'; exact hg
end Go.Proofs.Ytiahnoncionmkaa.HexW
