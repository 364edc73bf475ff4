/- PARTS, JOINED: LAYER 12: the walks of bytes told and read, both ways. Conditions: bytes and texts of at most 2^40. LAYER 12: the walks of ids told and read, both ways. Conditions: texts of at most 2^40. LAYER 12: the walk of the reference's IdOf. Conditions: texts of at most 2^40. LAYER 12: the walks of numbers told and read, both ways. Conditions: texts of at most 2^40. LAYER 12: the walk of NumOf. Conditions: texts of at most 2^40. PLAIN PART OF REPLIES: names, words, what a reply's line is, and whose line a text is. Conditions: none. -/
import Derived.Test.YtcddgbobbogpgaaDoorSb1
import Derived.Deep.MidRow
import Derived.Laws.Rows
import Derived.Laws.Tables
import Derived.Lib.SplitLaws
import Derived.Lib.Join
namespace Go.Proofs.YtcddgbobbogpgaaDoor.HexW
open Go.RowKit Bld Go.Mir Go.Mir.Hx Go.Mir.Parts

theorem text_any (p : Option Addr) (n c : Nat) (l : List UInt8) (w : World) (h : Bs w p n c l) (hn : n ≤ 1099511627776) :
    Calls Tryd.prog 22 #[.slice p n c] w fun e w' => e = .returned (.string (S (textL l))) ∧ Below w.heap.size w w' := by
  have H := Lib.hid h
  have hl := h.length
  clear h
  by_cases h0 : n = 0
  · have HL : Hid (textL l = [45]) := by show _ = _; unfold textL; rw [if_pos (List.length_eq_zero_iff.1 (by omega))]
    have hb : ((n : Int) == 0) = true := by rw [beq_iff_eq]; omega
    clear hl h0
    go_enter Tryd.func22, Tryd.ntmps22
    go_wp2_with fail
    go_ret
    exact ⟨by rw [HL.out]; rfl, Below.refl _ _⟩
  · have HL : Hid (textL l = pairsL l) := by show _ = _; unfold textL; rw [if_neg (fun e => h0 (by rw [← hl, e]; rfl))]
    have hb : ((n : Int) == 0) = false := by rw [beq_eq_false_iff_ne]; omega
    clear hl
    go_enter Tryd.func22, Tryd.ntmps22
    go_wp2_with fail
    refine (pairs_any _ _ _ l _ H.out hn (by omega)).mono ?_
    rintro e w1 ⟨rfl, hb1⟩
    have HB := Lib.hid hb1
    clear hb1
    go_wp2_with fail
    go_ret
    exact ⟨by rw [HL.out]; rfl, HB.out⟩

/-- what is left of a text read -/
def BytesP (l : List UInt8) (w : World) (e : Ending) (w' : World) : Prop := Below w.heap.size w w' ∧ ((∃ b p c, bytesL l = some b ∧ e = .returned (.tuple #[.slice p b.length c, .int .i64 0]) ∧ Bs w' p b.length c b ∧ (∀ a, p = some a → w.heap.size ≤ a.block)) ∨ (bytesL l = none ∧ e = .returned (.tuple #[.slice none 0 0, .int .i64 4])))
theorem bytes_any (l : List UInt8) (w : World) (hl : l.length ≤ 1099511627776) : Calls Tryd.prog 55 #[.string (S l)] w (BytesP l w) := by
  by_cases h0 : l = [45]
  · have HR : Hid (bytesL l = some []) := by show _ = _; unfold bytesL; rw [if_pos h0]
    have hb : (l == [45]) = true := by rw [beq_iff_eq]; exact h0
    clear h0
    go_enter Tryd.func55, Tryd.ntmps55
    go_wp2_with fail
    go_ret2
    exact ⟨Below.refl _ _, .inl ⟨[], none, 0, HR.out, rfl, Sl.nil _ _, fun a ha => by cases ha⟩⟩
  · have HR : Hid (bytesL l = if l = [] then none else readL l) := by show _ = _; unfold bytesL; rw [if_neg h0]
    have hb : (l == [45]) = false := by rw [beq_eq_false_iff_ne]; exact h0
    clear h0
    go_enter Tryd.func55, Tryd.ntmps55
    go_wp2_with fail
    refine (read_any (S l) _ (by rw [S_size]; exact hl)).mono ?_
    rw [S_data]
    rintro e w1 ⟨hb1, ⟨b, p, c, hr, hne, rfl, hB, hp⟩ | ⟨hr, v, rfl⟩⟩
    · have HB := Lib.hid hb1
      have HR1 : Hid (bytesL l = some b) := by show _ = _; rw [HR.out, if_neg hne]; exact hr
      have HS := Lib.hid hB
      have HP := Lib.hid hp
      clear hb1 hr hne hB hp
      go_wp2_with fail
      go_ret2
      exact ⟨HB.out, .inl ⟨b, p, c, HR1.out, rfl, HS.out, HP.out⟩⟩
    · have HB := Lib.hid hb1
      have HR1 : Hid (bytesL l = none) := by
        show _ = _; rw [HR.out]
        split
        · rfl
        · rename_i hx; rcases hr with h | h
          · exact h
          · exact absurd h hx
      clear hb1 hr
      go_wp2_with fail
      go_ret2
      exact ⟨HB.out, .inr ⟨HR1.out, rfl⟩⟩

/-! ### the reference's -/
theorem half_ex (n : Nat) (hn : n < 16) : (⟨#[48, 49, 50, 51, 52, 53, 54, 55, 56, 57, 97, 98, 99, 100, 101, 102]⟩ : ByteArray).extract n (n + 1) = S [sgn n] := by
  have key : ∀ j : Fin 16, (⟨#[48, 49, 50, 51, 52, 53, 54, 55, 56, 57, 97, 98, 99, 100, 101, 102]⟩ : ByteArray).extract j.val (j.val + 1) = S [sgn j.val] := by decide
  exact key ⟨n, hn⟩
theorem str_ret {a b : ByteArray} (h : a = b) : Ending.returned (.string a) = .returned (.string b) := by rw [h]
theorem half_any (n : Nat) (w : World) (hn : n < 16) : Calls Tryd.prog 50 #[.int .i64 (n : Int)] w fun e w' => e = .returned (.string (S [sgn n])) ∧ w = w' := by
  go_enter Tryd.func50, Tryd.ntmps50
  go_wp2
  go_ret
  exact ⟨str_ret (half_ex n hn), rfl⟩
theorem sgn_inj {c : UInt8} {n : Nat} (h : sgn n = c) (hn : n < 16) : dig c.toNat = some n := by rw [← h, dig_sgn n hn]
def digV : Option Nat → Int
  | some n => (n : Int)
  | none => -1
theorem digit_any (c : UInt8) (w : World) : Calls Tryd.prog 59 #[.int .u8 (c.toNat : Int)] w fun e w' => e = .returned (.int .i64 (digV (dig c.toNat))) ∧ w = w' := by
  go_enter Tryd.func59, Tryd.ntmps59
  go_wp2
  go_loop [3] (fun j => ∃ k : Nat, k ≤ 16 ∧ j = .int .i64 k ∧ ∀ i, i < k → sgn i ≠ c) (fun j => 16 - (intOf j).toNat)
  case atStart => exact ⟨0, by omega, rfl, fun i h => by omega⟩
  case round =>
    obtain ⟨k, hk, rfl, hne⟩ := hrel
    have HN := Lib.hid hne
    clear hne
    by_cases hlt : k < 16
    · by_cases hc : sgn k = c
      · have HR := Lib.hid (sgn_inj hc hlt)
        have hb : ((((⟨#[48, 49, 50, 51, 52, 53, 54, 55, 56, 57, 97, 98, 99, 100, 101, 102]⟩ : ByteArray)[k]'hlt).toNat : Int) == (c.toNat : Int)) = true := by rw [signs_at k hlt, hc]; simp
        clear hc
        go_wp2
        go_ret
        rw [HR.out]
        exact ⟨rfl, rfl⟩
      · have hb : ((((⟨#[48, 49, 50, 51, 52, 53, 54, 55, 56, 57, 97, 98, 99, 100, 101, 102]⟩ : ByteArray)[k]'hlt).toNat : Int) == (c.toNat : Int)) = false := by
          rw [signs_at k hlt, beq_eq_false_iff_ne]
          intro e; exact hc (UInt8.toNat_inj.1 (by omega))
        have HC := Lib.hid hc
        clear hc
        go_wp2
        go_round
        case rel => exact ⟨k + 1, by omega, by go_num, fun i hi => by
          by_cases e : i = k
          · rw [e]; exact HC.out
          · exact HN.out i (by omega)⟩
        case measure => simp [intOf]; omega
    · have HR : Hid (dig c.toNat = none) := by
        show _ = _
        cases hd : dig c.toNat with
        | none => rfl
        | some n => exact absurd (sgn_dig hd) (HN.out n (by have := dig_lt hd; omega))
      go_wp2
      go_ret
      rw [HR.out]
      exact ⟨rfl, rfl⟩
theorem half_int (a : Int) (w : World) (h0 : 0 ≤ a) (h1 : a < 16) : Calls Tryd.prog 50 #[.int .i64 a] w fun e w' => e = .returned (.string (S [sgn a.toNat])) ∧ w' = w := by
  obtain ⟨n, rfl⟩ := Int.eq_ofNat_of_zero_le h0
  rw [Int.toNat_natCast]
  exact (half_any n w (by omega)).mono fun _ _ h => ⟨h.1, h.2.symm⟩

theorem w2_drew (B : Nat) (w : World) (n : Nat) : Below B w (w.drewN n) := ⟨rfl, rfl, rfl, Nat.le_refl _, fun _ _ => rfl⟩
set_option maxRecDepth 100000 in
theorem rText_any (p : Option Addr) (n c : Nat) (l : List UInt8) (w : World) (h : Bs w p n c l) (hn : n ≤ 1099511627776) :
    Calls Tryd.prog 28 #[.slice p n c] w fun e w' => e = .returned (.string (S (textL l))) ∧ Below w.heap.size w w' := by
  have H := Lib.hid h
  have hl := h.length
  have hcm := h.max
  have hnc := h.le
  clear h
  by_cases h0 : n = 0
  · have HL : Hid (textL l = [45]) := by show _ = _; unfold textL; rw [if_pos (List.length_eq_zero_iff.1 (by omega))]
    have hb : ((n : Int) == 0) = true := by rw [beq_iff_eq]; omega
    clear hl h0
    go_enter Tryd.func28, Tryd.ntmps28
    go_wp2_with fail
    go_ret
    exact ⟨by rw [HL.out]; rfl, Below.refl _ _⟩
  · have HL : Hid (textL l = pairsL l) := by show _ = _; unfold textL; rw [if_neg (fun e => h0 (by rw [← hl, e]; rfl))]
    have hb : ((n : Int) == 0) = false := by rw [beq_eq_false_iff_ne]; omega
    have HLE := Lib.hid hl
    clear hl
    go_enter Tryd.func28, Tryd.ntmps28
    go_wp2_with fail
    go_loopw [3, 4] (fun s j wr => ∃ k : Nat, k ≤ n ∧ j = .int .i64 k ∧ s = .string (S (pairsL (l.take k))) ∧ Below w.heap.size w wr) (fun _ j _ => n - (intOf j).toNat)
    case atStart => exact ⟨0, by omega, rfl, rfl, Below.refl _ _⟩
    case round =>
      obtain ⟨k, hk, rfl, rfl, hb1⟩ := hrel
      have HB := Lib.hid hb1
      have HPL := Lib.hid (pairsL_length (l.take k))
      have hpl : (pairsL (l.take k)).length ≤ 2199023255552 := by rw [HPL.out, List.length_take]; omega
      by_cases hlt : k < n
      · obtain ⟨b, o, rfl⟩ := H.out.addr (by omega) (by omega)
        have hc := Bs.byte (H.out.below hb1) (j := k) (by rw [HLE.out]; omega)
        have HTK := Lib.hid (take_snoc l k (by rw [HLE.out]; omega))
        have hd : decide ((k : Int) < (n : Int)) = true := by simp; omega
        have hx := (l[k]'(by rw [HLE.out]; omega)).toNat_lt
        generalize l[k]'(by rw [HLE.out]; omega) = x at *
        generalize hX : pairsL (l.take k) = X at *
        have HX := Lib.hid hX
        clear hb1 hX
        go_wp2_with fail
        go_quiet ((go_at_call 50; exact Calls.quiet_of_same (half_int _ _ (by omega) (by omega))))
        go_wp2_with fail
        go_roundw
        case rel =>
          refine ⟨k + 1, by omega, by go_num, ?_, HB.out.trans (w2_drew _ _ _)⟩
          rw [HTK.out, pairsL_snoc, HX.out, List.append_assoc]
          try rfl
        case measure => simp [intOf]; omega
      · have hk' : k = l.length := by have := HLE.out; omega
        have HX : Hid (pairsL (l.take k) = pairsL l) := by show _ = _; rw [hk', List.take_length]
        have hd : decide ((k : Int) < (n : Int)) = false := by simp; omega
        clear hb1 hk' hpl
        go_wp2_with fail
        go_ret
        exact ⟨str_ret (congrArg S (HX.out.trans HL.out.symm)), HB.out⟩

/-! ### the reference's bytes -/
set_option maxRecDepth 100000 in
theorem rBytes_any (l : List UInt8) (w : World) (hl : l.length ≤ 1099511627776) : Calls Tryd.prog 37 #[.string (S l)] w (BytesP l w) := by
  by_cases h0 : l = [45]
  · have HR : Hid (bytesL l = some []) := by show _ = _; unfold bytesL; rw [if_pos h0]
    have hb : (l == [45]) = true := by rw [beq_iff_eq]; exact h0
    clear h0
    go_enter Tryd.func37, Tryd.ntmps37
    go_wp2_with fail
    go_ret2
    exact ⟨Below.refl _ _, .inl ⟨[], none, 0, HR.out, rfl, Sl.nil _ _, fun a ha => by cases ha⟩⟩
  · have hb : (l == [45]) = false := by rw [beq_eq_false_iff_ne]; exact h0
    by_cases h1 : l.length = 0
    · have HR : Hid (bytesL l = none) := by show _ = _; unfold bytesL; rw [if_neg h0, if_pos (List.length_eq_zero_iff.1 h1)]
      have hb1 : ((l.length : Int) == 0) = true := by rw [beq_iff_eq]; omega
      clear h0 h1
      go_enter Tryd.func37, Tryd.ntmps37
      go_wp2_with fail
      go_ret2
      exact ⟨Below.refl _ _, .inr ⟨HR.out, rfl⟩⟩
    · have hb1 : ((l.length : Int) == 0) = false := by rw [beq_eq_false_iff_ne]; omega
      have HR : Hid (bytesL l = readL l) := by show _ = _; unfold bytesL; rw [if_neg h0, if_neg (fun e => h1 (by rw [e]; rfl))]
      by_cases h2 : l.length % 2 = 1
      · have HN : Hid (bytesL l = none) := by show _ = _; rw [HR.out]; exact readL_odd l h2
        have hb2 : ((l.length : Int) % 2 == 1) = true := by rw [beq_iff_eq]; omega
        clear h0 h1 h2
        go_enter Tryd.func37, Tryd.ntmps37
        go_wp2_with fail
        go_ret2
        exact ⟨Below.refl _ _, .inr ⟨HN.out, rfl⟩⟩
      · have hb2 : ((l.length : Int) % 2 == 1) = false := by rw [beq_eq_false_iff_ne]; omega
        have HE := Lib.hid h2
        clear h0 h1 h2
        go_enter Tryd.func37, Tryd.ntmps37
        go_wp2_with fail
        go_loopw [4, 5] (fun o j wr => ∃ (k : Nat) (b : List UInt8) (p : Option Addr) (c : Nat), 2 * k ≤ l.length ∧ j = .int .i64 ((2 * k : Nat) : Int) ∧ readL (l.take (2 * k)) = some b ∧ b.length = k ∧ o = .slice p b.length c ∧
          wr.ownsRow w.heap.size 5 1 (.slice p b.length c) b.length (bytesV b) ∧ Below w.heap.size w wr) (fun _ j _ => l.length - (intOf j).toNat)
        case atStart => exact ⟨0, [], none, 0, by omega, rfl, rfl, rfl, rfl, ⟨rfl, .inl ⟨rfl, rfl⟩⟩, Below.refl _ _⟩
        case round =>
          obtain ⟨k, b, p, c, hk, rfl, hr, hbl, rfl, hown, hb3⟩ := hrel
          have HRD := Lib.hid hr
          have HBL := Lib.hid hbl
          have HOW := Lib.hid hown
          have HB := Lib.hid hb3
          have hbl' : b.length ≤ 1099511627776 := by omega
          clear hr hbl hown hb3
          by_cases hlt : 2 * k < l.length
          · have hlt2 : 2 * k + 1 < l.length := by have := HE.out; omega
            have hd : decide (((2 * k : Nat) : Int) < (l.length : Int)) = true := by simp; omega
            have HTK : Hid (l.take (2 * (k + 1)) = l.take (2 * k) ++ [l[2 * k], l[2 * k + 1]]) := by
              show _ = _
              rw [show 2 * (k + 1) = 2 * k + 1 + 1 by omega, take_snoc l (2 * k + 1) (by omega), take_snoc l (2 * k) (by omega), List.append_assoc]; rfl
            have HAP : Hid (readL (l.take (2 * (k + 1))) = (readL [l[2 * k], l[2 * k + 1]]).map fun y => b ++ y) := by
              show _ = _
              rw [HTK.out, readL_append _ _ (by rw [List.length_take]; omega), HRD.out]; rfl
            have HALL : Hid (readL (l.take (2 * (k + 1))) = none → readL l = none) := fun h => by
              have h3 := readL_append (l.take (2 * (k + 1))) (l.drop (2 * (k + 1))) (by rw [List.length_take]; omega)
              rw [List.take_append_drop, h] at h3
              exact h3
            cases ha : dig (l[2 * k]).toNat with
            | none =>
              have HA := Lib.hid ha
              have HNONE : Hid (bytesL l = none) := by
                show _ = _; rw [HR.out]
                exact HALL.out (by rw [HAP.out, readL_two, ha]; rfl)
              clear ha
              go_wp2_with fail
              refine (digit_any _ _).mono ?_
              rintro e w' ⟨rfl, rfl⟩
              rw [HA.out]
              simp only [digV]
              go_wp2_with fail
              refine (digit_any _ _).mono ?_
              rintro e w' ⟨rfl, rfl⟩
              generalize digV (dig (l[2 * k + 1]).toNat) = B
              go_wp2_with fail
              go_ret2
              exact ⟨HB.out, .inr ⟨HNONE.out, rfl⟩⟩
            | some x =>
              have HA := Lib.hid ha
              have hx := dig_lt ha
              cases hy : dig (l[2 * k + 1]).toNat with
              | none =>
                have HY := Lib.hid hy
                have HNONE : Hid (bytesL l = none) := by
                  show _ = _; rw [HR.out]
                  exact HALL.out (by rw [HAP.out, readL_two, ha, hy]; rfl)
                clear ha hy
                go_wp2_with fail
                refine (digit_any _ _).mono ?_
                rintro e w' ⟨rfl, rfl⟩
                rw [HA.out]
                simp only [digV]
                go_wp2_with fail
                refine (digit_any _ _).mono ?_
                rintro e w' ⟨rfl, rfl⟩
                rw [HY.out]
                simp only [digV]
                go_wp2_with fail
                go_ret2
                exact ⟨HB.out, .inr ⟨HNONE.out, rfl⟩⟩
              | some y =>
                have HY := Lib.hid hy
                have hy16 := dig_lt hy
                have HRN : Hid (readL (l.take (2 * (k + 1))) = some (b ++ [UInt8.ofNat (16 * x + y)])) := by
                  show _ = _
                  rw [HAP.out, readL_two, ha, hy]; rfl
                obtain ⟨z, hz⟩ : ∃ z, z = UInt8.ofNat (16 * x + y) := ⟨_, rfl⟩
                have hw : IntKind.u8.wrap (16 * (x : Int) + (y : Int)) = (z.toNat : Int) := by
                  rw [hz, UInt8.toNat_ofNat', Nat.mod_eq_of_lt (by omega)]
                  simp [IntKind.wrap, IntKind.signed, IntKind.bits]; omega
                have HZ := Lib.hid hz
                have HS : Hid (Bs (wr.alloc (.cells #[.int .u8 (z.toNat : Int)] 5)) (some ⟨wr.heap.size, 0, none⟩) 1 1 [z]) := Bs.made _ [z] _ _ _ 1 rfl rfl (by omega)
                have HOX : Hid ((wr.alloc (.cells #[.int .u8 (z.toNat : Int)] 5)).ownsRow w.heap.size 5 1 (.slice p b.length c) b.length (bytesV b)) := HOW.out.alloc _
                have hbs := HB.out.size
                clear ha hy hz
                go_wp2_with fail
                refine (digit_any _ _).mono ?_
                rintro e w' ⟨rfl, rfl⟩
                rw [HA.out]
                simp only [digV]
                go_wp2_with fail
                refine (digit_any _ _).mono ?_
                rintro e w' ⟨rfl, rfl⟩
                rw [HY.out]
                simp only [digV]
                go_wp2_with (at_builtin; refine wpList_append_nx rfl _ _ 23 rfl (base := w.heap.size) Tryd.underlying23 infoB rfl (by omega) rfl HOX.out rfl HS.out (bytesV_one _) (by omega) (by simp; omega) ?_)
                intro p' c' w3 hown hg _ _
                have hb3 : Below w.heap.size w w3 := (HB.out.alloc hbs _).grown hg (by simp; omega) (fun i hi => (HOX.out.lt i hi).1)
                have HO3 := Lib.hid hown
                have HB3 := Lib.hid hb3
                clear hown hg hb3 hw
                go_wp2_with fail
                go_roundw
                case rel =>
                  refine ⟨k + 1, b ++ [z], p', c', by omega, by go_num, by rw [HZ.out]; exact HRN.out, by rw [List.length_append, HBL.out]; rfl, by rw [List.length_append]; rfl, ?_, HB3.out⟩
                  have := HO3.out
                  rw [List.length_append, List.length_singleton, bytesV_append]
                  exact this
                case measure => simp [intOf]; omega
          · have hk' : 2 * k = l.length := by omega
            have HBY : Hid (bytesL l = some b) := by
              show _ = _
              have := HRD.out
              rw [hk', List.take_length] at this
              rw [HR.out, this]
            have hd : decide (((2 * k : Nat) : Int) < (l.length : Int)) = false := by simp; omega
            clear hk'
            go_wp2_with fail
            go_ret2
            refine ⟨HB.out, .inl ⟨b, p, c, HBY.out, rfl, ?_, ?_⟩⟩
            · obtain ⟨p', c', e', hs'⟩ := own_sl HOW.out
              cases e'; exact hs'
            · intro a ha
              subst ha
              obtain ⟨g, cap, e', hg, _⟩ := own_some HOW.out (by simp)
              cases e'; exact hg
end Go.Proofs.YtcddgbobbogpgaaDoor.HexW

namespace Go.Proofs.YtcddgbobbogpgaaDoor.HexW
open Go.RowKit Bld Go.Mir Go.Mir.Hx Go.Mir.Parts

/-- an id, told -/
def idText (x : List UInt8) : List UInt8 := pairsL (x.take (trimN x 32))
/-- bytes in a row of their own -/
theorem bs_row {w : World} {b : Nat} {M : Array Value} {t : TypeId} {fr : Nat × Nat} {x : List UInt8} (h : w.heap[b]? = some (.cells M t fr)) (hM : M.toList = bytesV x) (k c : Nat) (hk : k ≤ x.length) (hc : k ≤ c) (hc2 : c ≤ 9223372036854775807) : Bs w (some ⟨b, 0, none⟩) k c (x.take k) :=
  ⟨by rw [bytesV_length, List.length_take]; omega, hc, hc2, fun h => (by cases h), fun a ha j u hu => by
    obtain rfl := Option.some.inj ha
    have hj := (List.getElem?_eq_some_iff.1 hu).1
    rw [bytesV_length, List.length_take] at hj
    rw [bytesV_get _ _ (by rw [List.length_take]; omega)] at hu
    rw [add_none, cell_of_row _ _ _ _ _ _ h, ← Array.getElem?_toList, hM, Nat.zero_add, bytesV_get _ _ (by omega), ← hu]
    simp⟩
theorem row_byte {w : World} {b : Nat} {M : Array Value} {t : TypeId} {fr : Nat × Nat} {x : List UInt8} (h : w.heap[b]? = some (.cells M t fr)) (hM : M.toList = bytesV x) (k : Nat) (hk : k < x.length) : w.cell? ⟨b, k, none⟩ = some (.int .u8 (x[k].toNat : Int)) := by
  rw [cell_of_row _ _ _ _ _ _ h, ← Array.getElem?_toList, hM, bytesV_get _ _ hk]

set_option maxRecDepth 100000 in
theorem idText_any (M : Array Value) (x : List UInt8) (w : World) (hM : M.toList = bytesV x) (hx : x.length = 32) :
    Calls Tryd.prog 23 #[.agg M] w fun e w' => e = .returned (.string (S (idText x))) ∧ Below w.heap.size w w' := by
  have HM := Lib.hid hM
  have HX := Lib.hid hx
  clear hM hx
  go_enter Tryd.func23, Tryd.ntmps23
  go_wp2_with fail
  have HR : Hid ((w.alloc (.cells M 25)).heap[w.heap.size]? = some (.cells M 25)) := heap_alloc_last _ _
  have HB : Hid (Below w.heap.size w (w.alloc (.cells M 25))) := Below.allocs _ _
  generalize w.alloc (.cells M 25) = w0 at *
  go_loop [3] (fun j => ∃ k : Nat, 1 ≤ k ∧ k ≤ 32 ∧ j = .int .i64 k ∧ trimN x k = trimN x 32) (fun j => (intOf j).toNat)
  case atStart => exact ⟨32, by omega, by omega, rfl, rfl⟩
  case round =>
    obtain ⟨k, hk1, hk, rfl, ht⟩ := hrel
    have HT := Lib.hid ht
    clear ht
    by_cases h1 : 1 < k
    · have hc := row_byte HR.out HM.out (k - 1) (by rw [HX.out]; omega)
      have hb : decide ((1 : Int) < (k : Int)) = true := by simp; omega
      have hcast : ((k - 1 : Nat) : Int) = (k : Int) - 1 := by omega
      by_cases hz : x[k - 1]'(by rw [HX.out]; omega) = 0
      · have HZ := Lib.hid (trimN_step x k h1 (by rw [List.getElem?_eq_getElem (by rw [HX.out]; omega), hz]))
        have hq : (((x[k - 1]'(by rw [HX.out]; omega)).toNat : Int) == 0) = true := by rw [hz]; rfl
        clear hz
        go_wp2_with fail
        go_round
        case rel => exact ⟨k - 1, by omega, by omega, by rw [hcast], HZ.out.symm.trans HT.out⟩
        case measure => simp [intOf]; omega
      · have HZ := Lib.hid (trimN_stop x k (.inr (by rw [List.getElem?_eq_getElem (by rw [HX.out]; omega)]; intro e; exact hz (Option.some.inj e))))
        have hq : (((x[k - 1]'(by rw [HX.out]; omega)).toNat : Int) == 0) = false := by
          rw [beq_eq_false_iff_ne]; intro e
          exact hz (UInt8.toNat_inj.1 (by have h0 : (0 : UInt8).toNat = 0 := rfl; omega))
        clear hz
        have hsl : (Instr.sliceAt 25 (.pointer (some ⟨w.heap.size, 0, none⟩)) none (some (.int .i64 (k : Int))) none).run Tryd.prog w0 = .ok (.slice (some ⟨w.heap.size, 0, none⟩) k 32) w0 := run_sliceAt_upto w0 25 5 32 1 Tryd.underlying25 (by kernel_rfl) _ _ _ k rfl (by omega) (by omega)
        go_wp2_with fail
        refine (pairs_any _ _ _ (x.take k) _ (bs_row HR.out HM.out k 32 (by rw [HX.out]; exact hk) hk (by omega)) (by omega) (by omega)).mono ?_
        rintro e w1 ⟨rfl, hb1⟩
        have HB1 := Lib.hid hb1
        clear hb1
        go_wp2_with fail
        go_ret
        exact ⟨str_ret (congrArg S (congrArg (fun m => pairsL (x.take m)) (HZ.out.symm.trans HT.out))), HB.out.trans (HB1.out.mono HB.out.size)⟩
    · have HZ := Lib.hid (trimN_stop x k (.inl (by omega)))
      have hb : decide ((1 : Int) < (k : Int)) = false := by simp; omega
      have hsl : (Instr.sliceAt 25 (.pointer (some ⟨w.heap.size, 0, none⟩)) none (some (.int .i64 (k : Int))) none).run Tryd.prog w0 = .ok (.slice (some ⟨w.heap.size, 0, none⟩) k 32) w0 := run_sliceAt_upto w0 25 5 32 1 Tryd.underlying25 (by kernel_rfl) _ _ _ k rfl (by omega) (by omega)
      go_wp2_with fail
      refine (pairs_any _ _ _ (x.take k) _ (bs_row HR.out HM.out k 32 (by rw [HX.out]; exact hk) hk (by omega)) (by omega) (by omega)).mono ?_
      rintro e w1 ⟨rfl, hb1⟩
      have HB1 := Lib.hid hb1
      clear hb1
      go_wp2_with fail
      go_ret
      exact ⟨str_ret (congrArg S (congrArg (fun m => pairsL (x.take m)) (HZ.out.symm.trans HT.out))), HB.out.trans (HB1.out.mono HB.out.size)⟩
theorem text_take (x : List UInt8) (k : Nat) (h1 : 1 ≤ k) (h2 : k ≤ x.length) : textL (x.take k) = pairsL (x.take k) := by
  unfold textL
  rw [if_neg (fun e => by have := congrArg List.length e; rw [List.length_take, List.length_nil] at this; omega)]
set_option maxRecDepth 100000 in
theorem rId_any (M : Array Value) (x : List UInt8) (w : World) (hM : M.toList = bytesV x) (hx : x.length = 32) :
    Calls Tryd.prog 29 #[.agg M] w fun e w' => e = .returned (.string (S (idText x))) ∧ Below w.heap.size w w' := by
  have HM := Lib.hid hM
  have HX := Lib.hid hx
  clear hM hx
  go_enter Tryd.func29, Tryd.ntmps29
  go_wp2_with fail
  have HR : Hid ((w.alloc (.cells M 25)).heap[w.heap.size]? = some (.cells M 25)) := heap_alloc_last _ _
  have HB : Hid (Below w.heap.size w (w.alloc (.cells M 25))) := Below.allocs _ _
  generalize w.alloc (.cells M 25) = w0 at *
  go_loop [3] (fun j => ∃ k : Nat, 1 ≤ k ∧ k ≤ 32 ∧ j = .int .i64 k ∧ trimN x k = trimN x 32) (fun j => (intOf j).toNat)
  case atStart => exact ⟨32, by omega, by omega, rfl, rfl⟩
  case round =>
    obtain ⟨k, hk1, hk, rfl, ht⟩ := hrel
    have HT := Lib.hid ht
    clear ht
    by_cases h1 : 1 < k
    · have hc := row_byte HR.out HM.out (k - 1) (by rw [HX.out]; omega)
      have hb : decide ((1 : Int) < (k : Int)) = true := by simp; omega
      have hcast : ((k - 1 : Nat) : Int) = (k : Int) - 1 := by omega
      by_cases hz : x[k - 1]'(by rw [HX.out]; omega) = 0
      · have HZ := Lib.hid (trimN_step x k h1 (by rw [List.getElem?_eq_getElem (by rw [HX.out]; omega), hz]))
        have hq : (((x[k - 1]'(by rw [HX.out]; omega)).toNat : Int) == 0) = true := by rw [hz]; rfl
        clear hz
        go_wp2_with fail
        go_round
        case rel => exact ⟨k - 1, by omega, by omega, by rw [hcast], HZ.out.symm.trans HT.out⟩
        case measure => simp [intOf]; omega
      · have HZ := Lib.hid (trimN_stop x k (.inr (by rw [List.getElem?_eq_getElem (by rw [HX.out]; omega)]; intro e; exact hz (Option.some.inj e))))
        have hq : (((x[k - 1]'(by rw [HX.out]; omega)).toNat : Int) == 0) = false := by
          rw [beq_eq_false_iff_ne]; intro e
          exact hz (UInt8.toNat_inj.1 (by have h0 : (0 : UInt8).toNat = 0 := rfl; omega))
        clear hz
        have hsl : (Instr.sliceAt 25 (.pointer (some ⟨w.heap.size, 0, none⟩)) none (some (.int .i64 (k : Int))) none).run Tryd.prog w0 = .ok (.slice (some ⟨w.heap.size, 0, none⟩) k 32) w0 := run_sliceAt_upto w0 25 5 32 1 Tryd.underlying25 (by kernel_rfl) _ _ _ k rfl (by omega) (by omega)
        go_wp2_with fail
        refine (rText_any _ _ _ (x.take k) _ (bs_row HR.out HM.out k 32 (by rw [HX.out]; exact hk) hk (by omega)) (by omega)).mono ?_
        rintro e w1 ⟨rfl, hb1⟩
        have HB1 := Lib.hid hb1
        clear hb1
        go_wp2_with fail
        go_ret
        exact ⟨str_ret (congrArg S ((text_take x k hk1 (by rw [HX.out]; exact hk)).trans <| congrArg (fun m => pairsL (x.take m)) (HZ.out.symm.trans HT.out))), HB.out.trans (HB1.out.mono HB.out.size)⟩
    · have HZ := Lib.hid (trimN_stop x k (.inl (by omega)))
      have hb : decide ((1 : Int) < (k : Int)) = false := by simp; omega
      have hsl : (Instr.sliceAt 25 (.pointer (some ⟨w.heap.size, 0, none⟩)) none (some (.int .i64 (k : Int))) none).run Tryd.prog w0 = .ok (.slice (some ⟨w.heap.size, 0, none⟩) k 32) w0 := run_sliceAt_upto w0 25 5 32 1 Tryd.underlying25 (by kernel_rfl) _ _ _ k rfl (by omega) (by omega)
      go_wp2_with fail
      refine (rText_any _ _ _ (x.take k) _ (bs_row HR.out HM.out k 32 (by rw [HX.out]; exact hk) hk (by omega)) (by omega)).mono ?_
      rintro e w1 ⟨rfl, hb1⟩
      have HB1 := Lib.hid hb1
      clear hb1
      go_wp2_with fail
      go_ret
      exact ⟨str_ret (congrArg S ((text_take x k hk1 (by rw [HX.out]; exact hk)).trans <| congrArg (fun m => pairsL (x.take m)) (HZ.out.symm.trans HT.out))), HB.out.trans (HB1.out.mono HB.out.size)⟩

/-! ### ids read -/
def idL (l : List UInt8) : Option (List UInt8) := match readL l with
  | none => none
  | some b => if b = [] ∨ 32 < b.length ∨ (1 < b.length ∧ b[b.length - 1]? = some 0) then none else some (padId b)
def zeros : List UInt8 := List.replicate 32 0
def IdP (l : List UInt8) (w : World) (e : Ending) (w' : World) : Prop := Below w.heap.size w w' ∧ ((∃ x M, idL l = some x ∧ x.length = 32 ∧ M.toList = bytesV x ∧ e = .returned (.tuple #[.agg M, .int .i64 0])) ∨ (idL l = none ∧ ∃ M, M.toList = bytesV zeros ∧ e = .returned (.tuple #[.agg M, .int .i64 4])))
def Z32 : Array Value := (bytesV zeros).toArray
theorem zeroId (w : World) : (zeroValue 25).run Tryd.prog w = .ok (.agg Z32) w := by kernel_rfl
theorem Z32_list : Z32.toList = bytesV zeros := by rw [Z32]
theorem Z32_size : Z32.size = 32 := by decide
theorem Z32_one : Z32.all (·.oneCell') = true := all_oneCell_toArray (bytesV_one zeros)
theorem two_allocs (w : World) (o o2 : Obj) : ((w.alloc o).alloc o2).heap[w.heap.size]? = some o ∧ ((w.alloc o).alloc o2).heap[w.heap.size + 1]? = some o2 ∧ ((w.alloc o).alloc o2).heap.size = w.heap.size + 2 ∧ Below w.heap.size w ((w.alloc o).alloc o2) := by
  refine ⟨block_old _ (heap_alloc_last _ _), ?_, by simp, (Below.allocs _ _).alloc (by simp) _⟩
  have := heap_alloc_last (w.alloc o) o2
  simpa using this
theorem splice_pad (b : List UInt8) (_h : b.length ≤ 32) : splice (bytesV zeros) 0 (bytesV b) = bytesV (padId b) := by
  unfold splice padId
  rw [List.take_zero, List.nil_append, bytesV_append, bytesV_length, Nat.zero_add]
  congr 1
  unfold bytesV zeros
  rw [← List.map_drop, List.drop_replicate]
theorem id_cases (l b : List UInt8) (hr : readL l = some b) (hne : l ≠ []) : (32 < b.length → idL l = none) ∧ (b.length ≤ 32 → idL l = if idText (padId b) = l then some (padId b) else none) := by
  have hlen := read_length hr
  have hb : b ≠ [] := fun e => hne (by rw [e] at hlen; exact List.length_eq_zero_iff.1 hlen)
  have hpos : 0 < b.length := List.length_pos_iff.2 hb
  have hp := pairs_read l b hr
  unfold idL
  rw [hr]
  refine ⟨fun h => by simp only; rw [if_pos (.inr (.inl h))], fun h => ?_⟩
  simp only
  have hiff := trim_pad b hpos h
  have hinj : idText (padId b) = l ↔ (padId b).take (trimN (padId b) 32) = b := by
    unfold idText
    constructor
    · intro e
      rw [← hp] at e
      have := congrArg readL e
      rw [readL_pairs, readL_pairs] at this
      exact Option.some.inj this
    · intro e; rw [e, hp]
  by_cases hc : idText (padId b) = l
  · rw [if_pos hc, if_neg]
    rintro (h1 | h1 | ⟨h1, h2⟩)
    · exact hb h1
    · omega
    · rcases hiff.1 (hinj.1 hc) with h3 | h3
      · omega
      · exact h3 h2
  · rw [if_neg hc, if_pos]
    refine .inr (.inr ?_)
    by_cases h1 : 1 < b.length
    · refine ⟨h1, ?_⟩
      by_cases h2 : b[b.length - 1]? = some 0
      · exact h2
      · exact absurd (hinj.2 (hiff.2 (.inr h2))) hc
    · exact absurd (hinj.2 (hiff.2 (.inl (by omega)))) hc
set_option maxRecDepth 100000 in
set_option maxHeartbeats 400000 in
theorem idOf_any (l : List UInt8) (w : World) (hl : l.length ≤ 1099511627776) : Calls Tryd.prog 72 #[.string (S l)] w (IdP l w) := by
  have hz := zeroId
  go_enter Tryd.func72, Tryd.ntmps72
  go_wp2_with fail
  have H2 := Lib.hid (two_allocs w (.cells Z32 25) (.cells Z32 25))
  generalize (w.alloc (.cells Z32 25)).alloc (.cells Z32 25) = w2 at *
  refine (read_any (S l) _ (by rw [S_size]; exact hl)).mono ?_
  rw [S_data]
  rintro e w3 ⟨hb3, ⟨b, p, c, hr, hne, rfl, hB, hp⟩ | ⟨hr, v, rfl⟩⟩
  · have HIC := Lib.hid (id_cases l b hr hne)
    have HR0 := Lib.hid (Below.keepOld hb3 H2.out.1)
    have HRX := Lib.hid (Below.keepOld hb3 H2.out.2.1)
    have HB0 := Lib.hid (H2.out.2.2.2.trans (hb3.mono (by have := H2.out.2.2.1; omega)))
    have HBS := Lib.hid hB
    have hbl : b.length ≤ 1099511627776 := by have := read_length hr; omega
    have HP2 : Hid (0 < b.length) := List.length_pos_iff.2 (fun e => hne (by have := read_length hr; rw [e] at this; exact List.length_eq_zero_iff.1 this))
    obtain ⟨pb, po, rfl⟩ := hB.addr HP2.out (by omega)
    have HCP : Hid (∀ (m : Nat) j v, (bytesV (b.take m))[j]? = some v → w3.cell? ((⟨pb, po, none⟩ : Addr).add j) = some v) := fun m j v hv => by
      refine HBS.out.cell _ rfl j v ?_
      have hj := (List.getElem?_eq_some_iff.1 hv).1
      rw [bytesV_length, List.length_take] at hj
      rw [← hv, bytesV_get _ _ (by omega), bytesV_get _ _ (by rw [List.length_take]; omega)]
      simp
    clear hb3 hr hne hB hp
    by_cases h32 : 32 < b.length
    · have HN := Lib.hid (HIC.out.1 h32)
      have hlen : (bytesV (b.take 32)).length = 32 := by rw [bytesV_length, List.length_take]; omega
      have HLEN := Lib.hid hlen
      have hq : ((32 : Int) == (b.length : Int)) = false := by rw [beq_eq_false_iff_ne]; omega
      have HMIN : Hid ((bytesV (b.take 32)).length = Nat.min b.length 32) := by show _ = _; rw [hlen]; exact (Nat.min_eq_right (by omega)).symm
      have HFIT : Hid (0 + (bytesV (b.take 32)).length ≤ (bytesV zeros).length) := by show _ ≤ _; rw [hlen]; decide
      go_wp2_with (refine wpList_copy_g rfl _ _ 23 23 rfl 5 Tryd.underlying23 (by kernel_rfl) _ _ _ _ _ _ rfl rfl (w.heap.size + 1) 0 (bytesV zeros) 25 HRX.out (bytesV (b.take 32)) HMIN.out (fun _ => ⟨rfl, _, rfl, HCP.out 32⟩) HFIT.out (bytesV_one _) (w.heap.size + 1) w3 (Below.refl _ _) (Nat.le_refl _) ?_)
      intro w4 HX4 hb4
      have HR1 := Lib.hid (Below.keepBlock hb4 HR0.out (by omega))
      have HB := Lib.hid (HB0.out.trans (hb4.mono (Nat.le_succ _)))
      clear hb4
      go_wp2_with (refine wpList_store_row rfl 25 _ _ rfl w.heap.size Z32 rfl rfl 25 Z32 HR1.out (by rw [Z32_size]; kernel_rfl) rfl Z32_one ?_)
      have HS : Hid ((w4.setRow w.heap.size Z32).heap[w.heap.size]? = some (.cells Z32 25)) := setRow_heap w4 _ _ _ _ _ HR1.out
      have HBB : Hid (Below w.heap.size w (w4.setRow w.heap.size Z32)) := below_setRow HB.out (Nat.le_refl _) _
      refine bodyPost_ret (results_row_tmp rfl _ _ _ _ _ _ _ rfl HS.out Tryd.underlying25 rfl (by rw [Z32_size]; kernel_rfl)) rfl ?_
      exact ⟨HBB.out, .inr ⟨HN.out, Z32, Z32_list, rfl⟩⟩
    · have hlen : (bytesV (b.take 32)).length = b.length := by rw [bytesV_length, List.length_take]; omega
      have HLEN := Lib.hid hlen
      have HT : Hid (b.take 32 = b) := List.take_of_length_le (by omega)
      have HMIN : Hid ((bytesV (b.take 32)).length = Nat.min b.length 32) := by show _ = _; rw [hlen]; exact (Nat.min_eq_left (by omega)).symm
      have HFIT : Hid (0 + (bytesV (b.take 32)).length ≤ (bytesV zeros).length) := by show _ ≤ _; rw [hlen]; show 0 + b.length ≤ 32; omega
      have hble : b.length ≤ 32 := by omega
      have HC := Lib.hid (HIC.out.2 hble)
      clear h32
      go_wp2_with (refine wpList_copy_g rfl _ _ 23 23 rfl 5 Tryd.underlying23 (by kernel_rfl) _ _ _ _ _ _ rfl rfl (w.heap.size + 1) 0 (bytesV zeros) 25 HRX.out (bytesV (b.take 32)) HMIN.out (fun _ => ⟨rfl, _, rfl, HCP.out 32⟩) HFIT.out (bytesV_one _) (w.heap.size + 1) w3 (Below.refl _ _) (Nat.le_refl _) ?_)
      intro w4 HX4 hb4
      have HR1 := Lib.hid (Below.keepBlock hb4 HR0.out (by omega))
      have HB := Lib.hid (HB0.out.trans (hb4.mono (Nat.le_succ _)))
      clear hb4
      obtain ⟨X, hX⟩ : ∃ X : Array Value, X.toList = bytesV (padId b) := ⟨(bytesV (padId b)).toArray, by simp⟩
      have HXL := Lib.hid hX
      have HX5 : Hid (w4.heap[w.heap.size + 1]? = some (.cells X 25)) := by
        have := HX4.out
        rw [HT.out, splice_pad b hble, ← hX, Array.toArray_toList] at this
        exact this
      have HXS : Hid (X.size = 32) := by show _ = _; rw [← Array.length_toList, hX, bytesV_length, padId_length b hble]
      have HX1 : Hid (X.all (·.oneCell') = true) := by
        have := all_oneCell_toArray (bytesV_one (padId b))
        rw [← hX, Array.toArray_toList] at this; exact this
      clear hX HX4 hlen
      go_wp2_with (refine wpList_load_row_g rfl 25 _ rfl (w.heap.size + 1) rfl 25 X (0, 0) _ HX5.out Tryd.underlying25 rfl (by rw [HXS.out]; kernel_rfl) ?_)
      refine (idText_any X (padId b) _ HXL.out (padId_length b hble)).mono ?_
      rintro e w5 ⟨rfl, hb5⟩
      have HR1 := Lib.hid (Below.keepOld hb5 HR1.out)
      have HX6 := Lib.hid (Below.keepOld hb5 HX5.out)
      have HB := Lib.hid (HB.out.trans (hb5.mono HB.out.size))
      clear hb5
      by_cases hc : idText (padId b) = l
      · have HY : Hid (idL l = some (padId b)) := by show _ = _; rw [HC.out, if_pos hc]
        have hq : (idText (padId b) == l) = true := by rw [beq_iff_eq]; exact hc
        clear hc
        go_wp2_with (first
          | refine wpList_load_row rfl 25 _ rfl (w.heap.size + 1) rfl 25 X (0, 0) _ HX6.out Tryd.underlying25 rfl (by rw [HXS.out]; kernel_rfl) ?_
          | refine wpList_store_row rfl 25 _ _ rfl w.heap.size X rfl rfl 25 Z32 HR1.out (by rw [HXS.out]; kernel_rfl) (by rw [HXS.out]; exact Z32_size) HX1.out ?_)
        have HS : Hid ((w5.setRow w.heap.size X).heap[w.heap.size]? = some (.cells X 25)) := setRow_heap w5 _ _ _ _ _ HR1.out
        have HBB : Hid (Below w.heap.size w (w5.setRow w.heap.size X)) := below_setRow HB.out (Nat.le_refl _) _
        refine bodyPost_ret (results_row_tmp rfl _ _ _ _ _ _ _ rfl HS.out Tryd.underlying25 rfl (by rw [HXS.out]; kernel_rfl)) rfl ?_
        exact ⟨HBB.out, .inl ⟨padId b, X, HY.out, padId_length b hble, HXL.out, rfl⟩⟩
      · have HN : Hid (idL l = none) := by show _ = _; rw [HC.out, if_neg hc]
        have hq : (idText (padId b) == l) = false := by rw [beq_eq_false_iff_ne]; exact hc
        clear hc
        go_wp2_with (refine wpList_store_row rfl 25 _ _ rfl w.heap.size Z32 rfl rfl 25 Z32 HR1.out (by rw [Z32_size]; kernel_rfl) rfl Z32_one ?_)
        have HS : Hid ((w5.setRow w.heap.size Z32).heap[w.heap.size]? = some (.cells Z32 25)) := setRow_heap w5 _ _ _ _ _ HR1.out
        have HBB : Hid (Below w.heap.size w (w5.setRow w.heap.size Z32)) := below_setRow HB.out (Nat.le_refl _) _
        refine bodyPost_ret (results_row_tmp rfl _ _ _ _ _ _ _ rfl HS.out Tryd.underlying25 rfl (by rw [Z32_size]; kernel_rfl)) rfl ?_
        exact ⟨HBB.out, .inr ⟨HN.out, Z32, Z32_list, rfl⟩⟩
  · have HN : Hid (idL l = none) := by
      show _ = _; unfold idL
      rcases hr with h | h
      · rw [h]
      · subst h; rfl
    have HR1 := Lib.hid (Below.keepOld hb3 H2.out.1)
    have HB := Lib.hid (H2.out.2.2.2.trans (hb3.mono (by have := H2.out.2.2.1; omega)))
    clear hb3 hr
    go_wp2_with (refine wpList_store_row rfl 25 _ _ rfl w.heap.size Z32 rfl rfl 25 Z32 HR1.out (by rw [Z32_size]; kernel_rfl) rfl Z32_one ?_)
    have HS : Hid ((w3.setRow w.heap.size Z32).heap[w.heap.size]? = some (.cells Z32 25)) := setRow_heap w3 _ _ _ _ _ HR1.out
    have HBB : Hid (Below w.heap.size w (w3.setRow w.heap.size Z32)) := below_setRow HB.out (Nat.le_refl _) _
    refine bodyPost_ret (results_row_tmp rfl _ _ _ _ _ _ _ rfl HS.out Tryd.underlying25 rfl (by rw [Z32_size]; kernel_rfl)) rfl ?_
    exact ⟨HBB.out, .inr ⟨HN.out, Z32, Z32_list, rfl⟩⟩
end Go.Proofs.YtcddgbobbogpgaaDoor.HexW

namespace Go.Proofs.YtcddgbobbogpgaaDoor.HexW
open Go.RowKit Bld Go.Mir Go.Mir.Hx Go.Mir.Parts

theorem id_bytes (l : List UInt8) : (bytesL l = none → idL l = none) ∧ ∀ b, bytesL l = some b → idL l = if b = [] ∨ 32 < b.length ∨ (1 < b.length ∧ b[b.length - 1]? = some 0) then none else some (padId b) := by
  unfold bytesL
  by_cases h : l = [45]
  · subst h
    refine ⟨fun h => (by simp at h), fun b hb => ?_⟩
    simp at hb; subst hb; rfl
  · rw [if_neg h]
    by_cases h0 : l = []
    · subst h0; refine ⟨fun _ => rfl, fun b hb => (by simp at hb)⟩
    · rw [if_neg h0]
      refine ⟨fun hn => by unfold idL; rw [hn], fun b hb => by unfold idL; rw [hb]⟩
/-- an id, as far as it is filled -/
def part (b : List UInt8) (k : Nat) : List UInt8 := b.take k ++ List.replicate (32 - k) 0
theorem part_set (b : List UInt8) (k : Nat) (h : k < b.length) (h32 : k < 32) : (part b k).set k b[k] = part b (k + 1) := by
  unfold part
  have hl : (b.take k).length = k := by rw [List.length_take]; omega
  rw [List.set_append_right _ _ (by omega), hl, Nat.sub_self, show 32 - k = (32 - (k + 1)) + 1 by omega, List.replicate_succ, List.set_cons_zero, take_snoc b k h, List.append_assoc]; rfl
theorem part_end (b : List UInt8) (_h : b.length ≤ 32) : part b b.length = padId b := by unfold part padId; rw [List.take_length]

theorem row_id {M : Array Value} {x : List UInt8} (hM : M.toList = bytesV x) (hx : x.length = 32) : M.size = 32 ∧ M.all (·.oneCell') = true := by
  refine ⟨by rw [← Array.length_toList, hM, bytesV_length, hx], ?_⟩
  have := all_oneCell_toArray (bytesV_one x)
  rw [← hM, Array.toArray_toList] at this; exact this
theorem part_length (b : List UInt8) (k : Nat) (h : k ≤ b.length) (h32 : k ≤ 32) : (part b k).length = 32 := by
  unfold part; rw [List.length_append, List.length_take, List.length_replicate]; omega
theorem part_row {M : Array Value} {b : List UInt8} {k : Nat} (hM : M.toList = bytesV (part b k)) (h : k < b.length) (h32 : k < 32) : (M.setIfInBounds k (.int .u8 (b[k].toNat : Int))).toList = bytesV (part b (k + 1)) := by
  rw [Array.toList_setIfInBounds, hM, ← part_set b k h h32]
  simp [bytesV, List.map_set]
set_option maxRecDepth 100000 in
set_option maxHeartbeats 400000 in
theorem rIdOf_any (l : List UInt8) (w : World) (hl : l.length ≤ 1099511627776) : Calls Tryd.prog 60 #[.string (S l)] w (IdP l w) := by
  have hz := zeroId
  have HIB := Lib.hid (id_bytes l)
  go_enter Tryd.func60, Tryd.ntmps60
  go_wp2_with fail
  have H2 := Lib.hid (two_allocs w (.cells Z32 25) (.cells Z32 25))
  generalize (w.alloc (.cells Z32 25)).alloc (.cells Z32 25) = w2 at *
  refine (rBytes_any l _ hl).mono ?_
  rintro e w3 ⟨hb3, ⟨b, p, c, hr, rfl, hB, hp⟩ | ⟨hr, rfl⟩⟩
  · have HR1 := Lib.hid (Below.keepOld hb3 H2.out.1)
    have HX := Lib.hid (Below.keepOld hb3 H2.out.2.1)
    have HB := Lib.hid (H2.out.2.2.2.trans (hb3.mono (by have := H2.out.2.2.1; omega)))
    have HI := Lib.hid (HIB.out.2 b hr)
    have HBS := Lib.hid hB
    have hle := hB.le
    have hmax := hB.max
    have HP : Hid (∀ a, p = some a → ¬ a.block = w.heap.size + 1) := fun a ha e => by have := hp a ha; have := H2.out.2.2.1; omega
    clear hb3 hr hB hp
    by_cases h0 : b.length = 0
    · have HN : Hid (idL l = none) := by show _ = _; rw [HI.out, if_pos (.inl (List.length_eq_zero_iff.1 h0))]
      have hq : ((b.length : Int) == 0) = true := by rw [beq_iff_eq]; omega
      clear h0
      go_wp2_with (first
        | refine wpList_load_row rfl 25 _ rfl (w.heap.size + 1) rfl 25 Z32 (0, 0) _ HX.out Tryd.underlying25 rfl (by rw [Z32_size]; kernel_rfl) ?_
        | refine wpList_store_row rfl 25 _ _ rfl w.heap.size Z32 rfl rfl 25 Z32 HR1.out (by rw [Z32_size]; kernel_rfl) rfl Z32_one ?_)
      have HS : Hid ((w3.setRow w.heap.size Z32).heap[w.heap.size]? = some (.cells Z32 25)) := setRow_heap w3 _ _ _ _ _ HR1.out
      have HBB : Hid (Below w.heap.size w (w3.setRow w.heap.size Z32)) := below_setRow HB.out (Nat.le_refl _) _
      refine bodyPost_ret (results_row_tmp rfl _ _ _ _ _ _ _ rfl HS.out Tryd.underlying25 rfl (by rw [Z32_size]; kernel_rfl)) rfl ?_
      exact ⟨HBB.out, .inr ⟨HN.out, Z32, Z32_list, rfl⟩⟩
    · have hq : ((b.length : Int) == 0) = false := by rw [beq_eq_false_iff_ne]; omega
      have HNE : Hid (b ≠ []) := fun e => h0 (by rw [e]; rfl)
      by_cases h32 : 32 < b.length
      · have HN : Hid (idL l = none) := by show _ = _; rw [HI.out, if_pos (.inr (.inl h32))]
        clear h0
        go_wp2_with (first
          | refine wpList_load_row rfl 25 _ rfl (w.heap.size + 1) rfl 25 Z32 (0, 0) _ HX.out Tryd.underlying25 rfl (by rw [Z32_size]; kernel_rfl) ?_
          | refine wpList_store_row rfl 25 _ _ rfl w.heap.size Z32 rfl rfl 25 Z32 HR1.out (by rw [Z32_size]; kernel_rfl) rfl Z32_one ?_)
        have HS : Hid ((w3.setRow w.heap.size Z32).heap[w.heap.size]? = some (.cells Z32 25)) := setRow_heap w3 _ _ _ _ _ HR1.out
        have HBB : Hid (Below w.heap.size w (w3.setRow w.heap.size Z32)) := below_setRow HB.out (Nat.le_refl _) _
        refine bodyPost_ret (results_row_tmp rfl _ _ _ _ _ _ _ rfl HS.out Tryd.underlying25 rfl (by rw [Z32_size]; kernel_rfl)) rfl ?_
        exact ⟨HBB.out, .inr ⟨HN.out, Z32, Z32_list, rfl⟩⟩
      · obtain ⟨pb, po, rfl⟩ := HBS.out.addr (by omega) (by omega)
        have hd32 : decide ((32 : Int) < (b.length : Int)) = false := by simp; omega
        have hlt : b.length - 1 < b.length := by omega
        clear h0
        have hc := Bs.byte HBS.out (j := b.length - 1) hlt
        have hcast : ((b.length - 1 : Nat) : Int) = (b.length : Int) - 1 := by omega
        by_cases hbad : 1 < b.length ∧ b[b.length - 1]? = some 0
        · have HN : Hid (idL l = none) := by show _ = _; rw [HI.out, if_pos (.inr (.inr hbad))]
          obtain ⟨h1, hl0⟩ := hbad
          have hd1 : decide ((1 : Int) < (b.length : Int)) = true := by simp; omega
          have hz0 : (((b[b.length - 1]'hlt).toNat : Int) == 0) = true := by
            rw [List.getElem?_eq_getElem hlt] at hl0
            rw [Option.some.inj hl0]; rfl
          clear hl0
          go_wp2_with (first
            | refine wpList_load_row rfl 25 _ rfl (w.heap.size + 1) rfl 25 Z32 (0, 0) _ HX.out Tryd.underlying25 rfl (by rw [Z32_size]; kernel_rfl) ?_
            | refine wpList_store_row rfl 25 _ _ rfl w.heap.size Z32 rfl rfl 25 Z32 HR1.out (by rw [Z32_size]; kernel_rfl) rfl Z32_one ?_)
          have HS : Hid ((w3.setRow w.heap.size Z32).heap[w.heap.size]? = some (.cells Z32 25)) := setRow_heap w3 _ _ _ _ _ HR1.out
          have HBB : Hid (Below w.heap.size w (w3.setRow w.heap.size Z32)) := below_setRow HB.out (Nat.le_refl _) _
          refine bodyPost_ret (results_row_tmp rfl _ _ _ _ _ _ _ rfl HS.out Tryd.underlying25 rfl (by rw [Z32_size]; kernel_rfl)) rfl ?_
          exact ⟨HBB.out, .inr ⟨HN.out, Z32, Z32_list, rfl⟩⟩
        · have HY : Hid (idL l = some (padId b)) := by
            show _ = _; rw [HI.out, if_neg]
            rintro (h | h | h)
            · exact HNE.out h
            · exact h32 h
            · exact hbad h
          have HBAD := Lib.hid hbad
          clear hbad
          by_cases h1 : 1 < b.length
          all_goals
            first
              | have hd1 : decide ((1 : Int) < (b.length : Int)) = true := decide_eq_true (by omega)
              | have hd1 : decide ((1 : Int) < (b.length : Int)) = false := decide_eq_false (by omega)
            have hz0 : 1 < b.length → (((b[b.length - 1]'hlt).toNat : Int) == 0) = false := fun h1 => by
              rw [beq_eq_false_iff_ne]; intro e
              refine HBAD.out ⟨h1, ?_⟩
              rw [List.getElem?_eq_getElem hlt]
              congr 1
              exact UInt8.toNat_inj.1 (by have h0 : (0 : UInt8).toNat = 0 := rfl; omega)
            try replace hz0 := hz0 h1
            go_wp2_with fail
            go_loopw [7] (fun j wr => ∃ (k : Nat) (X : Array Value), k ≤ b.length ∧ j = .int .i64 k ∧ wr.heap[w.heap.size + 1]? = some (.cells X 25 (0, 0)) ∧ X.toList = bytesV (part b k) ∧ wr.heap[w.heap.size]? = some (.cells Z32 25 (0, 0)) ∧ Bs wr (some ⟨pb, po, none⟩) b.length c b ∧ Below w.heap.size w wr) (fun j _ => b.length - (intOf j).toNat)
            case atStart => exact ⟨0, Z32, by omega, rfl, HX.out, Z32_list, HR1.out, HBS.out, HB.out⟩
            case round =>
              clear hc hz0
              obtain ⟨k, X, hk, rfl, hx, hxl, hr0, hbs, hbb⟩ := hrel
              have HXO := Lib.hid hx
              have HXL := Lib.hid hxl
              have HR2 := Lib.hid hr0
              have HBS2 := Lib.hid hbs
              have HBB := Lib.hid hbb
              have HSZ := Lib.hid (row_id hxl (part_length b k hk (by omega)))
              by_cases hkl : k < b.length
              · have hby := Bs.byte hbs (j := k) hkl
                have hxk : ∃ u, wr.cell? ⟨w.heap.size + 1, k, none⟩ = some u := by
                  refine ⟨_, (cell_of_row _ _ _ _ _ _ hx).trans (Array.getElem?_eq_getElem (by rw [HSZ.out.1]; omega))⟩
                obtain ⟨u, hu⟩ := hxk
                have hf : wr.frozen? ⟨w.heap.size + 1, k, none⟩ = false := frozen_of_row _ _ _ _ _ hx
                have hdk : decide ((k : Int) < (b.length : Int)) = true := decide_eq_true (by omega)
                clear hx hxl hr0 hbs hbb
                go_wp2_with fail
                go_roundw
                case rel =>
                  have ht := (Turns.refl (fun i => i = w.heap.size + 1) wr).setCell (p := ⟨w.heap.size + 1, k, none⟩) (fun _ => rfl) (.int .u8 ((b[k]'hkl).toNat : Int))
                  refine ⟨k + 1, _, by omega, by go_num, heap_setCell_same _ _ _ _ _ _ HXO.out, part_row HXL.out hkl (by omega), ht.keep HR2.out (fun e => ?_), HBS2.out.touch ht (fun a ha _ => HP.out a ha), HBB.out.setCell (Nat.le_succ _) _⟩
                  omega
                case measure => simp [intOf]; omega
              · have hkb : k = b.length := by omega
                have hdk : decide ((k : Int) < (b.length : Int)) = false := decide_eq_false (by omega)
                have HXL2 : Hid (X.toList = bytesV (padId b)) := by show _ = _; rw [hxl, hkb, part_end b (by omega)]
                have HXS := HSZ
                have HX := HXO
                have HR1 := HR2
                have HB := HBB
                clear hx hxl hr0 hbs hbb hkb
                go_wp2_with (first
                  | refine wpList_load_row rfl 25 _ rfl (w.heap.size + 1) rfl 25 X (0, 0) _ HX.out Tryd.underlying25 rfl (by rw [HXS.out.1]; kernel_rfl) ?_
                  | refine wpList_store_row rfl 25 _ _ rfl w.heap.size X rfl rfl 25 Z32 HR1.out (by rw [HXS.out.1]; kernel_rfl) (by rw [HXS.out.1]; exact Z32_size) HXS.out.2 ?_)
                have HS : Hid ((wr.setRow w.heap.size X).heap[w.heap.size]? = some (.cells X 25)) := setRow_heap wr _ _ _ _ _ HR1.out
                have HBB : Hid (Below w.heap.size w (wr.setRow w.heap.size X)) := below_setRow HB.out (Nat.le_refl _) _
                refine bodyPost_ret (results_row_tmp rfl _ _ _ _ _ _ _ rfl HS.out Tryd.underlying25 rfl (by rw [HXS.out.1]; kernel_rfl)) rfl ?_
                exact ⟨HBB.out, .inl ⟨padId b, X, HY.out, padId_length b (by omega), HXL2.out, rfl⟩⟩
  · have HR1 := Lib.hid (Below.keepOld hb3 H2.out.1)
    have HX := Lib.hid (Below.keepOld hb3 H2.out.2.1)
    have HB := Lib.hid (H2.out.2.2.2.trans (hb3.mono (by have := H2.out.2.2.1; omega)))
    have HN := Lib.hid (HIB.out.1 hr)
    clear hb3 hr
    go_wp2_with (first
      | refine wpList_load_row rfl 25 _ rfl (w.heap.size + 1) rfl 25 Z32 (0, 0) _ HX.out Tryd.underlying25 rfl (by rw [Z32_size]; kernel_rfl) ?_
      | refine wpList_store_row rfl 25 _ _ rfl w.heap.size Z32 rfl rfl 25 Z32 HR1.out (by rw [Z32_size]; kernel_rfl) rfl Z32_one ?_)
    have HS : Hid ((w3.setRow w.heap.size Z32).heap[w.heap.size]? = some (.cells Z32 25)) := setRow_heap w3 _ _ _ _ _ HR1.out
    have HBB : Hid (Below w.heap.size w (w3.setRow w.heap.size Z32)) := below_setRow HB.out (Nat.le_refl _) _
    refine bodyPost_ret (results_row_tmp rfl _ _ _ _ _ _ _ rfl HS.out Tryd.underlying25 rfl (by rw [Z32_size]; kernel_rfl)) rfl ?_
    exact ⟨HBB.out, .inr ⟨HN.out, Z32, Z32_list, rfl⟩⟩
end Go.Proofs.YtcddgbobbogpgaaDoor.HexW

namespace Go.Proofs.YtcddgbobbogpgaaDoor.HexW
open Go.RowKit Bld Go.Mir Go.Mir.Hx Go.Mir.Parts

def Z20 : Array Value := (bytesV (List.replicate 20 0)).toArray
theorem zero20 (w : World) : (zeroValue 123).run Tryd.prog w = .ok (.agg Z20) w := by kernel_rfl
theorem sgn_digit (m : Nat) (h : m < 10) : sgn m = UInt8.ofNat (48 + m) := by unfold sgn; rw [if_pos h]
/-- how many digits a number has at most -/
theorem dec_len (n : Nat) (h : n < 18446744073709551616) : (decL n).length ≤ 20 := by
  by_cases h10 : n < 10
  · rw [decL_small n h10]; simp
  · have h1 := (dec_bounds n).2 (by omega)
    by_cases h2 : (decL n).length ≤ 20
    · exact h2
    · have h3 : 10 ^ 20 ≤ 10 ^ ((decL n).length - 1) := Nat.pow_le_pow_right (by omega) (by omega)
      have h4 : (10 : Nat) ^ 20 = 100000000000000000000 := by decide
      omega
/-- a buffer, filled from behind -/
structure Buf (M : Array Value) (k : Nat) (s : List UInt8) : Prop where
  size : M.size = 20
  len : s.length + k = 19
  tail : M.toList.drop (k + 1) = bytesV s
theorem Buf.put {M : Array Value} {k : Nat} {s : List UInt8} (h : Buf M (k + 1) s) (c : UInt8) : Buf (M.setIfInBounds (k + 1) (.int .u8 (c.toNat : Int))) k (c :: s) := by
  refine ⟨by rw [Array.size_setIfInBounds]; exact h.size, by have := h.len; simp; omega, ?_⟩
  rw [Array.toList_setIfInBounds]
  have hl : k + 1 < (M.toList.set (k + 1) (.int .u8 (c.toNat : Int))).length := by rw [List.length_set, Array.length_toList, h.size]; have := h.len; omega
  rw [List.drop_eq_getElem_cons hl, List.getElem_set_self, List.drop_set_of_lt (by omega), h.tail]
  rfl
theorem Buf.last {M : Array Value} {k : Nat} {s : List UInt8} (h : Buf M k s) (c : UInt8) : (M.setIfInBounds k (.int .u8 (c.toNat : Int))).toList.drop k = bytesV (c :: s) := by
  rw [Array.toList_setIfInBounds]
  have hl : k < (M.toList.set k (.int .u8 (c.toNat : Int))).length := by rw [List.length_set, Array.length_toList, h.size]; have := h.len; omega
  rw [List.drop_eq_getElem_cons hl, List.getElem_set_self, List.drop_set_of_lt (by omega), h.tail]
  rfl
theorem bs_drop {w : World} {b k m : Nat} {M : Array Value} {t : TypeId} {fr : Nat × Nat} {x : List UInt8} (h : w.heap[b]? = some (.cells M t fr)) (hM : M.toList.drop k = bytesV x) (hx : x.length = m) (hm : m ≤ 9223372036854775807) : Bs w (some ⟨b, k, none⟩) m m x :=
  ⟨by rw [bytesV_length, hx, Nat.mul_one], Nat.le_refl _, hm, fun h => (by cases h), fun a ha j u hu => by
    obtain rfl := Option.some.inj ha
    rw [add_none, cell_of_row _ _ _ _ _ _ h, ← Array.getElem?_toList, ← hu, ← hM, List.getElem?_drop]⟩

set_option maxRecDepth 100000 in
theorem num_any (n0 : Nat) (w : World) (hn : n0 < 18446744073709551616) :
    Calls Tryd.prog 48 #[.int .u64 (n0 : Int)] w fun e w' => e = .returned (.string (S (decL n0))) ∧ Below w.heap.size w w' := by
  have hz := zero20
  have hlen := dec_len n0 hn
  have HB0 : Hid (Buf Z20 19 []) := ⟨by decide, by simp, List.drop_eq_nil_of_le (by decide)⟩
  have HZR : Hid ((w.alloc (.cells Z20 123)).heap[w.heap.size]? = some (.cells Z20 123)) := heap_alloc_last _ _
  go_enter Tryd.func48, Tryd.ntmps48
  go_wp2_with fail
  generalize hD : decL n0 = D at *
  have HD := Lib.hid hD
  clear hD
  go_loopw [0, 4] (fun i j wr => ∃ (m k : Nat) (s : List UInt8) (M : Array Value), i = .int .u64 (m : Int) ∧ j = .int .i64 (k : Int) ∧ m ≤ n0 ∧ D = decL m ++ s ∧ Buf M k s ∧ wr.heap[w.heap.size]? = some (.cells M 123 (0, 0)) ∧ Below w.heap.size w wr) (fun i _ _ => (intOf i).toNat)
  case atStart => exact ⟨n0, 19, [], Z20, rfl, rfl, Nat.le_refl _, by rw [← HD.out]; simp, HB0.out, HZR.out, Below.allocs _ _⟩
  case round =>
    obtain ⟨m, k, s, M, rfl, rfl, hm, hds, hbuf, hrow, hbw⟩ := hrel
    have HDS := Lib.hid hds
    have HBF := Lib.hid hbuf
    have HR := Lib.hid hrow
    have HBW := Lib.hid hbw
    have hsl := hbuf.len
    have hdl : (decL m).length + s.length ≤ 20 := by rw [← List.length_append, ← hds]; exact hlen
    have hf : wr.frozen? ⟨w.heap.size, k, none⟩ = false := frozen_of_row _ _ _ _ _ hrow
    obtain ⟨u, hu⟩ : ∃ u, wr.cell? ⟨w.heap.size, k, none⟩ = some u := ⟨_, (cell_of_row _ _ _ _ _ _ hrow).trans (Array.getElem?_eq_getElem (by rw [hbuf.size]; omega))⟩
    clear hds hbuf hrow hbw
    by_cases h9 : 9 < m
    · have hd : decide ((9 : Int) < (m : Int)) = true := decide_eq_true (by omega)
      have HDB := Lib.hid (decL_big m (by omega))
      have hp := dec_pos (m / 10)
      rw [HDB.out, List.length_append, List.length_singleton] at hdl
      obtain ⟨k, rfl⟩ : ∃ k', k = k' + 1 := ⟨k - 1, by omega⟩
      go_wp2_with fail
      go_roundw
      case rel =>
        rw [signs_at _ (by omega)]
        refine ⟨m / 10, k, sgn (m % 10) :: s, _, by go_num, by go_num, by omega, ?_, HBF.out.put _, heap_setCell_same _ _ _ _ _ _ HR.out, HBW.out.setCell (Nat.le_refl _) _⟩
        rw [HDS.out, HDB.out, sgn_digit _ (by omega), List.append_assoc]; rfl
      case measure => simp [intOf]; omega
    · have hd : decide ((9 : Int) < (m : Int)) = false := decide_eq_false (by omega)
      have hsl2 : (Instr.sliceAt 123 (.pointer (some ⟨w.heap.size, 0, none⟩)) (some (.int .i64 (k : Int))) none none).run Tryd.prog (wr.setCell ⟨w.heap.size, k, none⟩ (.int .u8 ((sgn m).toNat : Int))) = .ok (.slice (some ⟨w.heap.size, k, none⟩) (20 - k) (20 - k)) (wr.setCell ⟨w.heap.size, k, none⟩ (.int .u8 ((sgn m).toNat : Int))) := by
        have := run_sliceAt_from (P := Tryd.prog) (wr.setCell ⟨w.heap.size, k, none⟩ (.int .u8 ((sgn m).toNat : Int))) 123 5 20 1 Tryd.underlying123 (by kernel_rfl) ⟨w.heap.size, 0, none⟩ .i64 (k : Int) k rfl (by omega)
        rw [Nat.mul_one, add_none, Nat.zero_add] at this
        exact this
      have hbs : Bs (wr.setCell ⟨w.heap.size, k, none⟩ (.int .u8 ((sgn m).toNat : Int))) (some ⟨w.heap.size, k, none⟩) (20 - k) (20 - k) (sgn m :: s) := bs_drop (heap_setCell_same _ _ _ _ _ _ HR.out) (HBF.out.last _) (by simp; omega) (by omega)
      have hcv := run_conv (P := Tryd.prog) 23 9 5 Tryd.underlying23 Tryd.underlying5 Tryd.underlying9 hbs
      have HBX := Lib.hid (HBW.out.setCell (p := ⟨w.heap.size, k, none⟩) (Nat.le_refl _) (.int .u8 ((sgn m).toNat : Int)))
      have HSG : (⟨#[48, 49, 50, 51, 52, 53, 54, 55, 56, 57, 97, 98, 99, 100, 101, 102]⟩ : ByteArray)[m]'(show m < 16 by omega) = sgn m := signs_at m (by omega) _
      have HDE := Lib.hid (decL_small m (by omega))
      have HSD := Lib.hid (sgn_digit m (by omega))
      clear hbs
      go_wp2_with fail
      go_ret
      exact ⟨str_ret (by rw [HD.out, HDS.out, HDE.out, HSD.out]; rfl), HBX.out⟩

theorem rNum_any (n : Nat) (hn : n < 18446744073709551616) : ∀ (w : World), Calls Tryd.prog 31 #[.int .u64 (n : Int)] w fun e w' => e = .returned (.string (S (decL n))) ∧ w = w' := by
  induction n using Nat.strongRecOn with
  | _ n ih =>
    intro w
    by_cases h9 : n < 10
    · have hd : decide ((n : Int) < 10) = true := decide_eq_true (by omega)
      have HDE := Lib.hid (decL_small n h9)
      have HSD := Lib.hid (sgn_digit n h9)
      clear ih
      go_enter Tryd.func31, Tryd.ntmps31
      go_wp2_with fail
      refine (half_any n _ (by omega)).mono ?_
      rintro e w' ⟨rfl, rfl⟩
      go_wp2_with fail
      go_ret
      exact ⟨str_ret (by rw [HDE.out, HSD.out]), rfl⟩
    · have hd : decide ((n : Int) < 10) = false := decide_eq_false (by omega)
      have HDB := Lib.hid (decL_big n (by omega))
      have HSD := Lib.hid (sgn_digit (n % 10) (by omega))
      have HIH := Lib.hid (ih (n / 10) (by omega) (by omega) w)
      have hl := dec_len (n / 10) (by omega)
      clear ih
      go_enter Tryd.func31, Tryd.ntmps31
      go_wp2_with fail
      rw [show (n : Int) / 10 = ((n / 10 : Nat) : Int) by omega]
      refine HIH.out.mono ?_
      rintro e w' ⟨rfl, rfl⟩
      go_wp2_with fail
      rw [show (n : Int) % 10 = ((n % 10 : Nat) : Int) by omega]
      refine (half_any (n % 10) _ (by omega)).mono ?_
      rintro e w' ⟨rfl, rfl⟩
      go_wp2_with fail
      go_ret
      exact ⟨str_ret (by rw [HDB.out, HSD.out]), rfl⟩
end Go.Proofs.YtcddgbobbogpgaaDoor.HexW

namespace Go.Proofs.YtcddgbobbogpgaaDoor.HexW
open Go.RowKit Bld Go.Mir Go.Mir.Hx Go.Mir.Parts

/-- what is read of a text, up to a bound: a number, an error -/
def niceB (l : List UInt8) : Bool := !l.isEmpty && l.all (fun c => decide (48 ≤ c.toNat) && decide (c.toNat ≤ 57)) && (l[0]? != some 48 || l.length == 1)
theorem niceB_iff (l : List UInt8) : niceB l = true ↔ Nice l := by
  unfold niceB Nice isD
  simp only [Bool.and_eq_true, Bool.not_eq_true', List.isEmpty_eq_false_iff, List.all_eq_true, decide_eq_true_eq, Bool.or_eq_true, bne_iff_ne, beq_iff_eq]
  constructor
  · rintro ⟨⟨h1, h2⟩, h3⟩
    exact ⟨h1, h2, fun h => h3.resolve_left (fun h' => h' h)⟩
  · rintro ⟨h1, h2, h3⟩
    refine ⟨⟨h1, h2⟩, ?_⟩
    by_cases h : l[0]? = some 48
    · exact .inr (h3 h)
    · exact .inl h
def numOf (l : List UInt8) (most : Nat) : Nat × Int := if niceB l = true then (if most < val l then (0, 3) else (val l, 0)) else (0, 4)
def NumP (l : List UInt8) (most : Nat) (w : World) (e : Ending) (w' : World) : Prop := e = .returned (.tuple #[.int .u64 ((numOf l most).1 : Int), .int .i64 (numOf l most).2]) ∧ Below w.heap.size w w'
theorem numOf_bad {l : List UInt8} (h : ¬ Nice l) (most : Nat) : numOf l most = (0, 4) := by unfold numOf; rw [if_neg (fun e => h ((niceB_iff l).1 e))]
theorem numOf_many {l : List UInt8} {most : Nat} (h : Nice l) (hm : most < val l) : numOf l most = (0, 3) := by unfold numOf; rw [if_pos ((niceB_iff l).2 h), if_pos hm]
theorem numOf_ok {l : List UInt8} {most : Nat} (h : Nice l) (hm : val l ≤ most) : numOf l most = (val l, 0) := by unfold numOf; rw [if_pos ((niceB_iff l).2 h), if_neg (by omega)]
theorem val_mono (l : List UInt8) (k : Nat) : val (l.take k) ≤ val l := by
  have h := foldl_val (l.drop k) (val (l.take k))
  have h2 : val l = (l.drop k).foldl (fun n c => 10 * n + (c.toNat - 48)) (val (l.take k)) := by
    unfold val
    rw [← List.foldl_append, List.take_append_drop]
  have h3 : 1 ≤ 10 ^ (l.drop k).length := by have := Nat.pos_of_ne_zero (n := 10 ^ (l.drop k).length) (by simp); omega
  have h4 : val (l.take k) * 1 ≤ val (l.take k) * 10 ^ (l.drop k).length := Nat.mul_le_mul_left _ h3
  rw [h2, h]; omega
/-- the state of a reading -/
structure St (l : List UInt8) (most k x : Nat) (many : Bool) : Prop where
  digs : ∀ c ∈ l.take k, isD c
  le : x ≤ most
  small : many = false → x = val (l.take k)
  big : many = true → most < val (l.take k)
theorem St.next {l : List UInt8} {most k x : Nat} (h : St l most k x false) (hk : k < l.length) (hd : isD l[k]) (hn : 10 * x + (l[k].toNat - 48) ≤ most) : St l most (k + 1) (10 * x + (l[k].toNat - 48)) false := by
  refine ⟨fun c hc => ?_, hn, fun _ => ?_, fun h => (by cases h)⟩
  · rw [take_snoc l k hk, List.mem_append, List.mem_singleton] at hc
    rcases hc with hc | rfl
    · exact h.digs c hc
    · exact hd
  · rw [take_snoc l k hk, val_snoc, h.small rfl]
theorem St.over {l : List UInt8} {most k x : Nat} {many : Bool} (h : St l most k x many) (hk : k < l.length) (hd : isD l[k]) (hn : many = true ∨ most < 10 * x + (l[k].toNat - 48)) : St l most (k + 1) x true := by
  refine ⟨fun c hc => ?_, h.le, fun h => (by cases h), fun _ => ?_⟩
  · rw [take_snoc l k hk, List.mem_append, List.mem_singleton] at hc
    rcases hc with hc | rfl
    · exact h.digs c hc
    · exact hd
  · rw [take_snoc l k hk, val_snoc]
    rcases hn with hn | hn
    · have := h.big hn; omega
    · cases many with
      | true => have := h.big rfl; omega
      | false => rw [← h.small rfl]; exact hn

set_option maxRecDepth 100000 in
set_option maxHeartbeats 400000 in
theorem numOf_any (l : List UInt8) (most : Nat) (w : World) (hl : l.length ≤ 1099511627776) (hm : most < 18446744073709551616) :
    Calls Tryd.prog 66 #[.string (S l), .int .u64 (most : Int)] w (NumP l most w) := by
  by_cases h0 : l = []
  · have HN : Hid (numOf l most = (0, 4)) := numOf_bad (fun h => h.1 h0) most
    subst h0
    go_enter Tryd.func66, Tryd.ntmps66
    go_wp2_with fail
    go_ret2
    exact ⟨by rw [HN.out]; rfl, Below.refl _ _⟩
  · have hpos : 0 < l.length := List.length_pos_iff.2 h0
    have hi0 : l.toArray.toList = l := rfl
    have hem : (l == []) = false := by rw [beq_eq_false_iff_ne]; exact h0
    by_cases hz : l[0] = 48 ∧ l ≠ [48]
    · have HN : Hid (numOf l most = (0, 4)) := numOf_bad (fun h => hz.2 (by
        have := h.2.2 (by rw [List.getElem?_eq_getElem hpos, hz.1])
        match l, this with
        | [c], _ => rw [← hz.1]; rfl)) most
      have hb : ((l[0].toNat : Int) == 48) = true := by rw [hz.1]; rfl
      have hb2 : (l == [48]) = false := by rw [beq_eq_false_iff_ne]; exact hz.2
      clear hz h0 hi0
      go_enter Tryd.func66, Tryd.ntmps66
      go_wp2_with fail
      go_ret2
      exact ⟨by rw [HN.out]; rfl, Below.refl _ _⟩
    · have HZ : Hid (l[0]? = some 48 → l.length = 1) := fun h => by
        rw [List.getElem?_eq_getElem hpos] at h
        by_cases h1 : l = [48]
        · rw [h1]; rfl
        · exact absurd ⟨Option.some.inj h, h1⟩ hz
      have HNE := Lib.hid h0
      clear h0 hi0
      by_cases hz0 : l[0] = 48
      · have hb : ((l[0].toNat : Int) == 48) = true := by rw [hz0]; rfl
        have hb2 : (l == [48]) = true := by
          rw [beq_iff_eq]
          by_cases h1 : l = [48]
          · exact h1
          · exact absurd ⟨hz0, h1⟩ hz
        clear hz hz0
        go_enter Tryd.func66, Tryd.ntmps66
        go_wp2_with fail
        have HW1 : Hid (w.iter (S l) 0 = w.alloc (.stringIter (S l) 0)) := rfl
        have HS : Hid ((S l).size = l.length) := S_size l
        have HSB : Hid (∀ k (h : k < (S l).size), (S l)[k] = l[k]'(by rw [← S_size]; exact h)) := fun k h => rfl
        go_loopw [6, 7] (fun n m wr => ∃ (k x : Nat) (many : Bool), k ≤ l.length ∧ n = .int .u64 (x : Int) ∧ m = .bool many ∧ St l most k x many ∧ wr.heap[w.heap.size]? = some (.stringIter (S l) k) ∧ Below w.heap.size w wr) (fun _ _ wr => l.length - wr.iterPos w.heap.size)
        case atStart => exact ⟨0, 0, false, by omega, rfl, rfl, ⟨fun c hc => by simp at hc, by omega, fun _ => rfl, fun h => (by cases h)⟩, World.iter_heap _ _ _, by rw [HW1.out]; exact Below.allocs _ _⟩
        case round =>
          obtain ⟨k, x, many, hk, rfl, rfl, hst, hit, hbw⟩ := hrel
          have HST := Lib.hid hst
          have HIT := Lib.hid hit
          have HBW := Lib.hid hbw
          have hxm := hst.le
          clear hst hit hbw
          by_cases hlt : k < l.length
          · obtain ⟨D, Wd, hnx, hD1, hD2⟩ := next_rune wr _ (S l) k HIT.out (by rw [HS.out]; exact hlt)
            have HIT1 := Lib.hid (Lib.iterAt_heap wr _ (S l) k (k + Wd) HIT.out)
            have HB2 := Lib.hid (Lib.below_iterAt HBW.out (Nat.le_refl _) (S l) (k + Wd))
            rw [HSB.out] at hD2
            have HD2 := Lib.hid hD2
            clear hD2
            by_cases hdg : 48 ≤ D ∧ D ≤ 57
            · obtain ⟨h48, h57⟩ := hdg
              obtain ⟨hDk, rfl⟩ : D = (l[k]'hlt).toNat ∧ Wd = 1 := by
                rcases HD2.out with h | h
                · exact h.2
                · omega
              have HDK := Lib.hid hDk
              have HID : Hid (isD (l[k]'hlt)) := ⟨by omega, by omega⟩
              have b1 : decide ((D : Int) < 48) = false := decide_eq_false (by omega)
              have b2 : decide ((57 : Int) < (D : Int)) = false := decide_eq_false (by omega)
              obtain ⟨d, rfl⟩ : ∃ d, D = 48 + d := ⟨D - 48, by omega⟩
              clear hDk
              cases many with
              | true =>
                have HN := Lib.hid (HST.out.over hlt HID.out (.inl rfl))
                go_wp2_with fail
                go_roundw
                case rel => exact ⟨k + 1, x, true, by omega, rfl, rfl, HN.out, HIT1.out, HB2.out⟩
                case measure => simp [World.iterPos, HIT.out, HIT1.out]; omega
              | false =>
                by_cases hmd : most < d
                · have HN := Lib.hid (HST.out.over hlt HID.out (.inr (by rw [← HDK.out]; omega)))
                  go_wp2_with fail
                  all_goals
                    go_roundw
                    case rel => exact ⟨k + 1, x, true, by omega, rfl, rfl, HN.out, HIT1.out, HB2.out⟩
                    case measure => simp [World.iterPos, HIT.out, HIT1.out]; omega
                · by_cases hov : most < 10 * x + d
                  · have HN := Lib.hid (HST.out.over hlt HID.out (.inr (by rw [← HDK.out]; omega)))
                    go_wp2_with fail
                    go_roundw
                    case rel => exact ⟨k + 1, x, true, by omega, rfl, rfl, HN.out, HIT1.out, HB2.out⟩
                    case measure => simp [World.iterPos, HIT.out, HIT1.out]; omega
                  · have HN := Lib.hid (HST.out.next hlt HID.out (by rw [← HDK.out]; omega))
                    go_wp2_with fail
                    go_roundw
                    case rel => exact ⟨k + 1, _, false, by omega, by rw [← HDK.out]; go_num, rfl, HN.out, HIT1.out, HB2.out⟩
                    case measure => simp [World.iterPos, HIT.out, HIT1.out]; omega
            · have HBAD : Hid (¬ Nice l) := fun h => by
                have h1 := h.2.1 (l[k]'hlt) (List.getElem_mem _)
                unfold isD at h1
                rcases HD2.out with h2 | h2
                · omega
                · omega
              have HN := Lib.hid (numOf_bad HBAD.out most)
              by_cases h48 : D < 48
              · have b1 : decide ((D : Int) < 48) = true := decide_eq_true (by omega)
                clear hdg
                go_wp2_with fail
                go_ret2
                exact ⟨by rw [HN.out]; rfl, HB2.out⟩
              · have b1 : decide ((D : Int) < 48) = false := decide_eq_false (by omega)
                have b2 : decide ((57 : Int) < (D : Int)) = true := decide_eq_true (by omega)
                clear hdg
                go_wp2_with fail
                go_ret2
                exact ⟨by rw [HN.out]; rfl, HB2.out⟩
          · obtain rfl : k = l.length := by omega
            have hnd : ∀ ty, (Instr.next (.pointer (some ⟨w.heap.size, 0, none⟩)) true ty).run Tryd.prog wr = .ok (.tuple #[.bool false]) wr := fun ty => Lib.run_next_end_at wr _ (S l) _ ty HIT.out (by rw [HS.out]; omega)
            have HNI : Hid (Nice l) := ⟨HNE.out, fun c hc => HST.out.digs c (by rw [List.take_length]; exact hc), HZ.out⟩
            cases many with
            | true =>
              have HN := Lib.hid (numOf_many HNI.out (by have := HST.out.big rfl; rwa [List.take_length] at this))
              go_wp2_with fail
              go_ret2
              exact ⟨by rw [HN.out]; rfl, HBW.out⟩
            | false =>
              have HSM : Hid (x = val l) := by have := HST.out.small rfl; rwa [List.take_length] at this
              have HN := Lib.hid (numOf_ok HNI.out (by rw [← HSM.out]; exact hxm))
              go_wp2_with fail
              go_ret2
              exact ⟨by rw [HN.out, HSM.out]; rfl, HBW.out⟩
      · have hb : ((l[0].toNat : Int) == 48) = false := by
          rw [beq_eq_false_iff_ne]; intro e
          exact hz0 (UInt8.toNat_inj.1 (by have h0 : (48 : UInt8).toNat = 48 := rfl; omega))
        clear hz hz0
        go_enter Tryd.func66, Tryd.ntmps66
        go_wp2_with fail
        have HW1 : Hid (w.iter (S l) 0 = w.alloc (.stringIter (S l) 0)) := rfl
        have HS : Hid ((S l).size = l.length) := S_size l
        have HSB : Hid (∀ k (h : k < (S l).size), (S l)[k] = l[k]'(by rw [← S_size]; exact h)) := fun k h => rfl
        go_loopw [6, 7] (fun n m wr => ∃ (k x : Nat) (many : Bool), k ≤ l.length ∧ n = .int .u64 (x : Int) ∧ m = .bool many ∧ St l most k x many ∧ wr.heap[w.heap.size]? = some (.stringIter (S l) k) ∧ Below w.heap.size w wr) (fun _ _ wr => l.length - wr.iterPos w.heap.size)
        case atStart => exact ⟨0, 0, false, by omega, rfl, rfl, ⟨fun c hc => by simp at hc, by omega, fun _ => rfl, fun h => (by cases h)⟩, World.iter_heap _ _ _, by rw [HW1.out]; exact Below.allocs _ _⟩
        case round =>
          obtain ⟨k, x, many, hk, rfl, rfl, hst, hit, hbw⟩ := hrel
          have HST := Lib.hid hst
          have HIT := Lib.hid hit
          have HBW := Lib.hid hbw
          have hxm := hst.le
          clear hst hit hbw
          by_cases hlt : k < l.length
          · obtain ⟨D, Wd, hnx, hD1, hD2⟩ := next_rune wr _ (S l) k HIT.out (by rw [HS.out]; exact hlt)
            have HIT1 := Lib.hid (Lib.iterAt_heap wr _ (S l) k (k + Wd) HIT.out)
            have HB2 := Lib.hid (Lib.below_iterAt HBW.out (Nat.le_refl _) (S l) (k + Wd))
            rw [HSB.out] at hD2
            have HD2 := Lib.hid hD2
            clear hD2
            by_cases hdg : 48 ≤ D ∧ D ≤ 57
            · obtain ⟨h48, h57⟩ := hdg
              obtain ⟨hDk, rfl⟩ : D = (l[k]'hlt).toNat ∧ Wd = 1 := by
                rcases HD2.out with h | h
                · exact h.2
                · omega
              have HDK := Lib.hid hDk
              have HID : Hid (isD (l[k]'hlt)) := ⟨by omega, by omega⟩
              have b1 : decide ((D : Int) < 48) = false := decide_eq_false (by omega)
              have b2 : decide ((57 : Int) < (D : Int)) = false := decide_eq_false (by omega)
              obtain ⟨d, rfl⟩ : ∃ d, D = 48 + d := ⟨D - 48, by omega⟩
              clear hDk
              cases many with
              | true =>
                have HN := Lib.hid (HST.out.over hlt HID.out (.inl rfl))
                go_wp2_with fail
                go_roundw
                case rel => exact ⟨k + 1, x, true, by omega, rfl, rfl, HN.out, HIT1.out, HB2.out⟩
                case measure => simp [World.iterPos, HIT.out, HIT1.out]; omega
              | false =>
                by_cases hmd : most < d
                · have HN := Lib.hid (HST.out.over hlt HID.out (.inr (by rw [← HDK.out]; omega)))
                  go_wp2_with fail
                  all_goals
                    go_roundw
                    case rel => exact ⟨k + 1, x, true, by omega, rfl, rfl, HN.out, HIT1.out, HB2.out⟩
                    case measure => simp [World.iterPos, HIT.out, HIT1.out]; omega
                · by_cases hov : most < 10 * x + d
                  · have HN := Lib.hid (HST.out.over hlt HID.out (.inr (by rw [← HDK.out]; omega)))
                    go_wp2_with fail
                    go_roundw
                    case rel => exact ⟨k + 1, x, true, by omega, rfl, rfl, HN.out, HIT1.out, HB2.out⟩
                    case measure => simp [World.iterPos, HIT.out, HIT1.out]; omega
                  · have HN := Lib.hid (HST.out.next hlt HID.out (by rw [← HDK.out]; omega))
                    go_wp2_with fail
                    go_roundw
                    case rel => exact ⟨k + 1, _, false, by omega, by rw [← HDK.out]; go_num, rfl, HN.out, HIT1.out, HB2.out⟩
                    case measure => simp [World.iterPos, HIT.out, HIT1.out]; omega
            · have HBAD : Hid (¬ Nice l) := fun h => by
                have h1 := h.2.1 (l[k]'hlt) (List.getElem_mem _)
                unfold isD at h1
                rcases HD2.out with h2 | h2
                · omega
                · omega
              have HN := Lib.hid (numOf_bad HBAD.out most)
              by_cases h48 : D < 48
              · have b1 : decide ((D : Int) < 48) = true := decide_eq_true (by omega)
                clear hdg
                go_wp2_with fail
                go_ret2
                exact ⟨by rw [HN.out]; rfl, HB2.out⟩
              · have b1 : decide ((D : Int) < 48) = false := decide_eq_false (by omega)
                have b2 : decide ((57 : Int) < (D : Int)) = true := decide_eq_true (by omega)
                clear hdg
                go_wp2_with fail
                go_ret2
                exact ⟨by rw [HN.out]; rfl, HB2.out⟩
          · obtain rfl : k = l.length := by omega
            have hnd : ∀ ty, (Instr.next (.pointer (some ⟨w.heap.size, 0, none⟩)) true ty).run Tryd.prog wr = .ok (.tuple #[.bool false]) wr := fun ty => Lib.run_next_end_at wr _ (S l) _ ty HIT.out (by rw [HS.out]; omega)
            have HNI : Hid (Nice l) := ⟨HNE.out, fun c hc => HST.out.digs c (by rw [List.take_length]; exact hc), HZ.out⟩
            cases many with
            | true =>
              have HN := Lib.hid (numOf_many HNI.out (by have := HST.out.big rfl; rwa [List.take_length] at this))
              go_wp2_with fail
              go_ret2
              exact ⟨by rw [HN.out]; rfl, HBW.out⟩
            | false =>
              have HSM : Hid (x = val l) := by have := HST.out.small rfl; rwa [List.take_length] at this
              have HN := Lib.hid (numOf_ok HNI.out (by rw [← HSM.out]; exact hxm))
              go_wp2_with fail
              go_ret2
              exact ⟨by rw [HN.out, HSM.out]; rfl, HBW.out⟩
end Go.Proofs.YtcddgbobbogpgaaDoor.HexW

namespace Go.Proofs.YtcddgbobbogpgaaDoor.Rpl
open Go.Mir Go.Mir.Hx HexW
open Go.Lib (join joinTail splitK count index)

/-! ### words -/
def sp : List UInt8 → List (List UInt8)
  | [] => [[]]
  | c :: r => if c = 32 then [] :: sp r else match sp r with
    | [] => [[c]]
    | h :: t => (c :: h) :: t
theorem sp_ne : ∀ s : List UInt8, sp s ≠ []
  | [] => by simp [sp]
  | c :: r => by
    unfold sp
    split
    · simp
    · split <;> simp
theorem sp_form (s : List UInt8) : ∃ h t, sp s = h :: t := by
  cases hs : sp s with
  | nil => exact absurd hs (sp_ne s)
  | cons h t => exact ⟨h, t, rfl⟩
theorem sp_pos (s : List UInt8) : 1 ≤ (sp s).length := by
  obtain ⟨h, t, e⟩ := sp_form s
  rw [e]; simp
theorem sp_blank (r : List UInt8) : sp (32 :: r) = [] :: sp r := by rw [sp]; rfl
theorem sp_sign {c : UInt8} (hc : ¬ c = 32) {r : List UInt8} {h : List UInt8} {t : List (List UInt8)} (e : sp r = h :: t) : sp (c :: r) = (c :: h) :: t := by
  rw [sp, if_neg hc, e]
/-- one sign more at the last word -/
def app1 (ws : List (List UInt8)) (c : UInt8) : List (List UInt8) := ws.set (ws.length - 1) ((ws[ws.length - 1]?.getD []) ++ [c])
theorem app1_cons (h : List UInt8) {t : List (List UInt8)} (ht : t ≠ []) (c : UInt8) : app1 (h :: t) c = h :: app1 t c := by
  cases t with
  | nil => exact absurd rfl ht
  | cons y t => simp [app1]
theorem app1_length (ws : List (List UInt8)) (c : UInt8) : (app1 ws c).length = ws.length := by simp [app1]
theorem sp_snoc (c : UInt8) : ∀ l : List UInt8, sp (l ++ [c]) = if c = 32 then sp l ++ [[]] else app1 (sp l) c
  | [] => by
    by_cases hc : c = 32
    · subst hc; rfl
    · rw [if_neg hc, List.nil_append, sp_sign hc (show sp [] = [] :: [] from rfl)]; rfl
  | x :: r => by
    have ih := sp_snoc c r
    obtain ⟨h, t, e⟩ := sp_form r
    rw [List.cons_append]
    by_cases hx : x = 32
    · subst hx
      rw [sp_blank, sp_blank, ih]
      split
      · rfl
      · rw [app1_cons _ (sp_ne r)]
    · rw [sp_sign hx e]
      rw [e] at ih
      by_cases hc : c = 32
      · rw [if_pos hc] at ih ⊢
        rw [sp_sign hx ih]; rfl
      · rw [if_neg hc] at ih ⊢
        cases t with
        | nil =>
          have e2 : app1 [h] c = [h ++ [c]] := rfl
          rw [e2] at ih
          rw [sp_sign hx ih]; rfl
        | cons y t =>
          rw [app1_cons h (t := y :: t) (by simp) c] at ih
          rw [sp_sign hx ih, app1_cons (x :: h) (t := y :: t) (by simp) c]
theorem join_sp : ∀ s : List UInt8, join (sp s) [32] = s
  | [] => rfl
  | c :: r => by
    have ih := join_sp r
    obtain ⟨h, t, e⟩ := sp_form r
    by_cases hc : c = 32
    · subst hc
      rw [sp_blank, Go.Lib.join_cons, e]
      rw [e, Go.Lib.join_cons] at ih
      simp only [joinTail, List.map_cons, List.flatten_cons, List.nil_append, List.append_assoc] at ih ⊢
      rw [ih]; rfl
    · rw [sp_sign hc e, Go.Lib.join_cons]
      rw [e, Go.Lib.join_cons] at ih
      rw [List.cons_append, ih]
theorem sp_app : ∀ (x : List UInt8), (32 : UInt8) ∉ x → ∀ z, sp (x ++ 32 :: z) = x :: sp z
  | [], _, z => by rw [List.nil_append, sp_blank]
  | c :: r, h, z => by
    rw [List.cons_append, sp_sign (fun e => h (by rw [e]; exact List.mem_cons_self)) (sp_app r (fun hm => h (List.mem_cons_of_mem _ hm)) z)]
theorem sp_one : ∀ (x : List UInt8), (32 : UInt8) ∉ x → sp x = [x]
  | [], _ => rfl
  | c :: r, h => sp_sign (fun e => h (by rw [e]; exact List.mem_cons_self)) (sp_one r (fun hm => h (List.mem_cons_of_mem _ hm)))
theorem sp_join : ∀ (ws : List (List UInt8)), ws ≠ [] → (∀ x ∈ ws, (32 : UInt8) ∉ x) → sp (join ws [32]) = ws
  | [], h, _ => absurd rfl h
  | [x], _, h => by rw [Go.Lib.join_one]; exact sp_one x (h x (by simp))
  | x :: y :: r, _, h => by
    have ih := sp_join (y :: r) (by simp) (fun z hz => h z (List.mem_cons_of_mem _ hz))
    rw [Go.Lib.join_cons] at ih
    have e : join (x :: y :: r) [32] = x ++ 32 :: (y ++ joinTail [32] r) := by
      rw [Go.Lib.join_cons]
      simp [joinTail]
    rw [e, sp_app x (h x (by simp)), ih]
theorem split_sp : ∀ s : List UInt8, splitK [32] 0 (count s [32]) s = sp s
  | [] => by rw [Go.Lib.count_one]; rfl
  | c :: r => by
    have ih := split_sp r
    by_cases hc : c = 32
    · subst hc
      have hix : index (32 :: r) [32] = ((0 : Nat) : Int) := by rw [index]; simp [List.isPrefixOf]
      rw [Go.Lib.count_cons_eq, Nat.add_comm 1, splitK, hix, sp_blank, ← ih]
      rfl
    · have hp : ([32] : List UInt8).isPrefixOf (c :: r) = false := by simp [List.isPrefixOf, Ne.symm hc]
      have hix : index (c :: r) [32] = if index r [32] == -1 then -1 else index r [32] + 1 := by rw [index, hp]; simp
      rw [Go.Lib.count_cons_ne c 32 r hc]
      cases hk : count r [32] with
      | zero =>
        rw [hk] at ih
        rw [sp_sign hc (show sp r = r :: [] from ih.symm)]
        rfl
      | succ k =>
        rw [hk] at ih
        by_cases hm : index r [32] = -1
        · have := Go.Lib.count_miss hm
          omega
        · have hge := Go.Lib.index_ge r [32]
          obtain ⟨j, hj⟩ : ∃ j : Nat, index r [32] = j := ⟨(index r [32]).toNat, by omega⟩
          have hix' : index (c :: r) [32] = ((j + 1 : Nat) : Int) := by rw [hix, if_neg (fun e => hm (beq_iff_eq.1 e)), hj]; omega
          have n1 : ¬ (((j + 1 : Nat) : Int) == -1) = true := fun e => by have := beq_iff_eq.1 e; omega
          have n2 : ¬ (((j : Nat) : Int) == -1) = true := fun e => by have := beq_iff_eq.1 e; omega
          rw [splitK, hj, if_neg n2] at ih
          rw [sp_sign hc ih.symm, splitK, hix', if_neg n1]
          rfl
theorem sp_len : ∀ (s : List UInt8), ∀ x ∈ sp s, x.length ≤ s.length
  | [], x, hx => by
    have hx : x ∈ [([] : List UInt8)] := hx
    rw [List.mem_singleton] at hx
    rw [hx]; exact Nat.le_refl _
  | c :: r, x, hx => by
    have ih := sp_len r
    obtain ⟨h, t, e⟩ := sp_form r
    by_cases hc : c = 32
    · subst hc
      rw [sp_blank] at hx
      rcases List.mem_cons.1 hx with rfl | hx
      · exact Nat.zero_le _
      · have := ih x hx
        rw [List.length_cons]; omega
    · rw [sp_sign hc e] at hx
      rw [e] at ih
      rcases List.mem_cons.1 hx with rfl | hx
      · have := ih h List.mem_cons_self
        rw [List.length_cons, List.length_cons]; omega
      · have := ih x (List.mem_cons_of_mem _ hx)
        rw [List.length_cons]; omega
/-! ### names -/
def E21 : List (List UInt8) := [[111, 107], [97, 114, 103], [115, 104, 111, 114, 116], [108, 111, 110, 103], [102, 111, 114, 109], [110, 111, 110, 101], [116, 119, 105, 99, 101], [110, 105, 108], [115, 101, 97, 108], [115, 117, 109], [115, 116, 97, 116, 101], [104, 97, 108, 116, 101, 100], [115, 101, 115, 115, 105, 111, 110], [101, 120, 112, 105, 114, 101, 100], [115, 101, 113], [113, 117, 111, 116, 97], [109, 97, 110, 121], [100, 105, 115, 107], [100, 111, 119, 110], [112, 97, 114, 101, 110, 116], [100, 101, 101, 112]]
def K7 : List (List UInt8) := [[110, 111, 110, 101], [111, 112, 101, 110], [117, 112, 108, 111, 97, 100], [97, 115, 107], [99, 108, 111, 115, 101], [99, 111, 110, 110, 101, 99, 116], [100, 105, 115, 99, 111, 110, 110, 101, 99, 116]]
def nameB (n : Int) (ls : List (List UInt8)) : List UInt8 := if 0 ≤ n ∧ n < (ls.length : Int) then (ls[n.toNat]?).getD [] else [63]
def ofB (s : List UInt8) : List (List UInt8) → Nat × Bool
  | [] => (0, false)
  | x :: r => if x = s then (0, true) else if (ofB s r).2 = true then ((ofB s r).1 + 1, true) else (0, false)
theorem ofB_hit {s : List UInt8} : ∀ {ls : List (List UInt8)} {i : Nat}, ls[i]? = some s → (∀ j, j < i → ls[j]? ≠ some s) → ofB s ls = (i, true)
  | [], i, h, _ => by simp at h
  | x :: r, 0, h, _ => by
    have h : x = s := by simpa using h
    rw [ofB, if_pos h]
  | x :: r, i + 1, h, hno => by
    have h0 : ¬ x = s := fun e => hno 0 (Nat.succ_pos _) (by rw [e]; rfl)
    have := ofB_hit (ls := r) (i := i) (by simpa using h) (fun j hj => by simpa using hno (j + 1) (Nat.succ_lt_succ hj))
    rw [ofB, if_neg h0, this]
    rfl
theorem ofB_miss {s : List UInt8} : ∀ {ls : List (List UInt8)}, (∀ j : Nat, ls[j]? ≠ some s) → ofB s ls = (0, false)
  | [], _ => rfl
  | x :: r, hno => by
    have h0 : ¬ x = s := fun e => hno 0 (by rw [e]; rfl)
    have := ofB_miss (ls := r) (fun j => by simpa using hno (j + 1))
    rw [ofB, if_neg h0, this]
    rfl
theorem ofB_at {s : List UInt8} : ∀ {ls : List (List UInt8)}, (ofB s ls).2 = true → ls[(ofB s ls).1]? = some s
  | [], h => by cases h
  | x :: r, h => by
    by_cases hx : x = s
    · rw [ofB, if_pos hx, hx]; rfl
    · by_cases hr : (ofB s r).2 = true
      · rw [ofB, if_neg hx, if_pos hr]
        simpa using ofB_at hr
      · rw [ofB, if_neg hx, if_neg hr] at h
        cases h
theorem ofB_lt {s : List UInt8} {ls : List (List UInt8)} (h : (ofB s ls).2 = true) : (ofB s ls).1 < ls.length := (List.getElem?_eq_some_iff.1 (ofB_at h)).1
theorem ofB_zero {s : List UInt8} {ls : List (List UInt8)} (h : ¬ (ofB s ls).2 = true) : ofB s ls = (0, false) := by
  cases ls with
  | nil => rfl
  | cons x r =>
    rw [ofB] at h ⊢
    split at h
    · exact absurd rfl h
    · split at h
      · exact absurd rfl h
      · rename_i h1 h2
        rw [if_neg h1, if_neg h2]
theorem e21_back : ∀ i : Fin 21, ofB (nameB (i.val : Int) E21) E21 = (i.val, true) := by decide
theorem k7_back : ∀ i : Fin 7, ofB (nameB (i.val : Int) K7) K7 = (i.val, true) := by decide
theorem e21_none : ofB [63] E21 = (0, false) := by decide
theorem k7_none : ofB [63] K7 = (0, false) := by decide
theorem e21_no32 : ∀ x ∈ E21, (32 : UInt8) ∉ x := by decide
theorem k7_no32 : ∀ x ∈ K7, (32 : UInt8) ∉ x := by decide
theorem e21_ne63 : ∀ i : Fin 21, nameB (i.val : Int) E21 ≠ [63] := by decide
theorem k7_ne63 : ∀ i : Fin 7, nameB (i.val : Int) K7 ≠ [63] := by decide
theorem name_of {ls : List (List UInt8)} {s : List UInt8} (h : (ofB s ls).2 = true) : nameB ((ofB s ls).1 : Int) ls = s := by
  have h1 := ofB_lt h
  unfold nameB
  rw [if_pos ⟨by omega, by omega⟩, Int.toNat_natCast, ofB_at h]
  rfl
theorem name_out {n : Int} {ls : List (List UInt8)} (h : ¬ (0 ≤ n ∧ n < (ls.length : Int))) : nameB n ls = [63] := if_neg h
theorem name_in {i : Nat} {ls : List (List UInt8)} (h : i < ls.length) : nameB (i : Int) ls = ls[i] := by
  unfold nameB
  rw [if_pos ⟨by omega, by omega⟩, Int.toNat_natCast, List.getElem?_eq_getElem h]
  rfl
/-! ### replies -/
structure RP where
  kind : Int
  err : Int
  se : Nat
  sq : Nat
  qu : Nat
  us : Nat
  ex : Nat
def RP.nums (r : RP) : List Nat := [r.se, r.sq, r.qu, r.us, r.ex]
def RP.zero : RP := ⟨0, 0, 0, 0, 0, 0, 0⟩
def RP.wf (r : RP) : Prop := ∀ n ∈ r.nums, n < 4294967296
def RP.kinds (r : RP) : Prop := 0 ≤ r.kind ∧ r.kind ≤ 6 ∧ 0 ≤ r.err ∧ r.err ≤ 20
def RP.only (r : RP) : Prop := r.err = 0 ∨ (r.se = 0 ∧ r.sq = 0 ∧ r.qu = 0 ∧ r.us = 0 ∧ r.ex = 0)
def RP.right (r : RP) : Prop := r.kinds ∧ r.only
instance (r : RP) : Decidable r.kinds := by unfold RP.kinds; infer_instance
instance (r : RP) : Decidable r.only := by unfold RP.only; infer_instance
instance (r : RP) : Decidable r.right := by unfold RP.right; infer_instance
def words (r : RP) : List (List UInt8) := [nameB r.kind K7, nameB r.err E21] ++ (if r.err = 0 then r.nums.map decL else [])
def lineB (r : RP) : List UInt8 := if r.right then join (words r) [32] else []
/-- the numbers of words, if all are -/
def numsB (ws : List (List UInt8)) : Option (List Nat) := if ∀ x ∈ ws, (numOf x 4294967295).2 = 0 then some (ws.map fun x => (numOf x 4294967295).1) else none
def mkR (k e : Int) (l : List Nat) : RP := ⟨k, e, l.getD 0 0, l.getD 1 0, l.getD 2 0, l.getD 3 0, l.getD 4 0⟩
def finR (k e : Int) : Option (List Nat) → RP × Int
  | some l => (mkR k e l, 0)
  | none => (RP.zero, 4)
structure Fits (ws : List (List UInt8)) : Prop where
  k : (ofB (ws.getD 0 []) K7).2 = true
  two : 2 ≤ ws.length
  e : (ofB (ws.getD 1 []) E21).2 = true
  len : ws.length = (if (ofB (ws.getD 1 []) E21).1 = 0 then 7 else 2)
open Classical in
noncomputable def parseW (ws : List (List UInt8)) : RP × Int :=
  if Fits ws then finR ((ofB (ws.getD 0 []) K7).1 : Int) ((ofB (ws.getD 1 []) E21).1 : Int) (numsB (ws.drop 2)) else (RP.zero, 4)
theorem parse_fits {ws : List (List UInt8)} (h : Fits ws) : parseW ws = finR ((ofB (ws.getD 0 []) K7).1 : Int) ((ofB (ws.getD 1 []) E21).1 : Int) (numsB (ws.drop 2)) := if_pos h
theorem parse_not {ws : List (List UInt8)} (h : ¬ Fits ws) : parseW ws = (RP.zero, 4) := if_neg h
noncomputable def parseB (s : List UInt8) : RP × Int := parseW (sp s)
theorem numOf_dec (n most : Nat) (h : n ≤ most) : numOf (decL n) most = (n, 0) := by
  rw [numOf_ok (dec_nice n) (by rw [val_dec]; exact h), val_dec]
theorem numOf_cases (l : List UInt8) (most : Nat) : (∃ v, numOf l most = (v, 0) ∧ decL v = l ∧ v ≤ most) ∨ ∃ e, numOf l most = (0, e) ∧ (e = 3 ∨ e = 4) := by
  by_cases h : Nice l
  · by_cases hm : most < val l
    · exact .inr ⟨3, numOf_many h hm, .inl rfl⟩
    · exact .inl ⟨val l, numOf_ok h (by omega), dec_val l h, by omega⟩
  · exact .inr ⟨4, numOf_bad h most, .inr rfl⟩
theorem numOf_back {l : List UInt8} {most : Nat} (h : (numOf l most).2 = 0) : decL (numOf l most).1 = l ∧ (numOf l most).1 ≤ most := by
  rcases numOf_cases l most with ⟨v, e, h1, h2⟩ | ⟨x, e, h1⟩
  · rw [e]; exact ⟨h1, h2⟩
  · rw [e] at h
    rcases h1 with rfl | rfl
    · exact absurd h (by decide)
    · exact absurd h (by decide)
theorem dec_no32 (n : Nat) : (32 : UInt8) ∉ decL n := fun h => by
  have := (dec_digits n 32 h).1
  exact absurd this (by decide)
theorem name_no32 (n : Int) (ls : List (List UInt8)) (h : ∀ x ∈ ls, (32 : UInt8) ∉ x) : (32 : UInt8) ∉ nameB n ls := by
  unfold nameB
  split
  · rename_i hn
    have hl : n.toNat < ls.length := by omega
    rw [List.getElem?_eq_getElem hl]
    exact h _ (List.getElem_mem hl)
  · decide
theorem words_no32 (r : RP) : ∀ x ∈ words r, (32 : UInt8) ∉ x := by
  intro x hx
  unfold words at hx
  rw [List.mem_append] at hx
  rcases hx with hx | hx
  · simp only [List.mem_cons, List.not_mem_nil, or_false] at hx
    rcases hx with rfl | rfl
    · exact name_no32 _ _ k7_no32
    · exact name_no32 _ _ e21_no32
  · split at hx
    · obtain ⟨n, _, rfl⟩ := List.mem_map.1 hx
      exact dec_no32 n
    · cases hx
theorem words_ne (r : RP) : words r ≠ [] := by unfold words; simp
theorem nums_dec {l : List Nat} (h : ∀ n ∈ l, n < 4294967296) : numsB (l.map decL) = some l := by
  unfold numsB
  rw [if_pos]
  · rw [List.map_map]
    congr 1
    conv => rhs; rw [← List.map_id l]
    refine List.map_congr_left fun n hn => ?_
    show (numOf (decL n) 4294967295).1 = n
    rw [numOf_dec n _ (by have := h n hn; omega)]
  · intro x hx
    obtain ⟨n, hn, rfl⟩ := List.mem_map.1 hx
    rw [numOf_dec n _ (by have := h n hn; omega)]
theorem kind_back {n : Int} (h : 0 ≤ n ∧ n ≤ 6) : ofB (nameB n K7) K7 = (n.toNat, true) := by
  have := k7_back ⟨n.toNat, by omega⟩
  have e : ((n.toNat : Nat) : Int) = n := by omega
  rw [show ((⟨n.toNat, by omega⟩ : Fin 7).val : Int) = n from e] at this
  exact this
theorem err_back {n : Int} (h : 0 ≤ n ∧ n ≤ 20) : ofB (nameB n E21) E21 = (n.toNat, true) := by
  have := e21_back ⟨n.toNat, by omega⟩
  have e : ((n.toNat : Nat) : Int) = n := by omega
  rw [show ((⟨n.toNat, by omega⟩ : Fin 21).val : Int) = n from e] at this
  exact this
theorem parse_words {r : RP} (h : r.right) (hw : r.wf) : parseW (words r) = (r, 0) := by
  obtain ⟨kind, err, se, sq, qu, us, ex⟩ := r
  obtain ⟨⟨h1, h2, h3, h4⟩, h5⟩ := h
  have h1 : 0 ≤ kind := h1
  have h2 : kind ≤ 6 := h2
  have h3 : 0 ≤ err := h3
  have h4 : err ≤ 20 := h4
  have kb := kind_back ⟨h1, h2⟩
  have eb := err_back ⟨h3, h4⟩
  have e0 : ((kind.toNat : Nat) : Int) = kind := by omega
  have e1 : ((err.toNat : Nat) : Int) = err := by omega
  by_cases h0 : err = 0
  · have e2 : words ⟨kind, err, se, sq, qu, us, ex⟩ = [nameB kind K7, nameB err E21, decL se, decL sq, decL qu, decL us, decL ex] := by
      unfold words
      rw [if_pos h0]; rfl
    have hn : numsB [decL se, decL sq, decL qu, decL us, decL ex] = some [se, sq, qu, us, ex] := nums_dec (l := [se, sq, qu, us, ex]) hw
    have kb1 : (ofB (nameB kind K7) K7).1 = kind.toNat := by rw [kb]
    have eb1 : (ofB (nameB err E21) E21).1 = err.toNat := by rw [eb]
    have hf : Fits [nameB kind K7, nameB err E21, decL se, decL sq, decL qu, decL us, decL ex] := ⟨by show (ofB (nameB kind K7) K7).2 = true; rw [kb], by show 2 ≤ 7; omega, by show (ofB (nameB err E21) E21).2 = true; rw [eb], by show 7 = (if (ofB (nameB err E21) E21).1 = 0 then 7 else 2); rw [eb1, if_pos (by omega)]⟩
    rw [e2, parse_fits hf]
    show finR ((ofB (nameB kind K7) K7).1 : Int) ((ofB (nameB err E21) E21).1 : Int) (numsB [decL se, decL sq, decL qu, decL us, decL ex]) = _
    rw [kb1, eb1, hn, e0, e1]
    rfl
  · have e2 : words ⟨kind, err, se, sq, qu, us, ex⟩ = [nameB kind K7, nameB err E21] := by
      unfold words
      rw [if_neg h0]; rfl
    have hz : se = 0 ∧ sq = 0 ∧ qu = 0 ∧ us = 0 ∧ ex = 0 := h5.resolve_left h0
    obtain ⟨rfl, rfl, rfl, rfl, rfl⟩ := hz
    have kb1 : (ofB (nameB kind K7) K7).1 = kind.toNat := by rw [kb]
    have eb1 : (ofB (nameB err E21) E21).1 = err.toNat := by rw [eb]
    have hf : Fits [nameB kind K7, nameB err E21] := ⟨by show (ofB (nameB kind K7) K7).2 = true; rw [kb], Nat.le_refl _, by show (ofB (nameB err E21) E21).2 = true; rw [eb], by show 2 = (if (ofB (nameB err E21) E21).1 = 0 then 7 else 2); rw [eb1, if_neg (by omega)]⟩
    rw [e2, parse_fits hf]
    show finR ((ofB (nameB kind K7) K7).1 : Int) ((ofB (nameB err E21) E21).1 : Int) (numsB []) = _
    rw [kb1, eb1, e0, e1, show numsB [] = some [] from nums_dec (l := []) (fun _ h => nomatch h)]
    rfl
theorem parse_line {r : RP} (h : r.right) (hw : r.wf) : parseB (lineB r) = (r, 0) := by
  unfold parseB lineB
  rw [if_pos h, sp_join _ (words_ne r) (words_no32 r)]
  exact parse_words h hw
theorem nums_back {ws : List (List UInt8)} {l : List Nat} (h : numsB ws = some l) : l.map decL = ws ∧ (∀ n ∈ l, n < 4294967296) ∧ l.length = ws.length := by
  unfold numsB at h
  split at h
  · rename_i hx
    have h := (Option.some.inj h).symm
    subst h
    refine ⟨?_, fun n hn => ?_, by rw [List.length_map]⟩
    · rw [List.map_map]
      conv => rhs; rw [← List.map_id ws]
      exact List.map_congr_left fun x hm => (numOf_back (hx x hm)).1
    · obtain ⟨x, hm, rfl⟩ := List.mem_map.1 hn
      have := (numOf_back (hx x hm)).2
      omega
  · cases h
theorem parse_back {ws : List (List UInt8)} {r : RP} (h : parseW ws = (r, 0)) : words r = ws ∧ r.right ∧ r.wf := by
  by_cases hc : Fits ws
  · rw [parse_fits hc] at h
    obtain ⟨c1, c2, c3, c4⟩ := hc
    cases hl : numsB (ws.drop 2) with
    | some l =>
      rw [hl] at h
      obtain ⟨g1, g2, g3⟩ := nums_back hl
      have h := (Prod.mk.inj h).1
      have n1 := name_of c1
      have n2 := name_of c3
      have l1 := ofB_lt c1
      have l2 := ofB_lt c3
      clear hl c1 c3
      generalize (ofB (ws.getD 0 []) K7).1 = k at *
      generalize (ofB (ws.getD 1 []) E21).1 = e at *
      have l1 : k < 7 := l1
      have l2 : e < 21 := l2
      match ws, c2 with
      | a :: b :: r2, _ =>
        have n1 : nameB (k : Int) K7 = a := n1
        have n2 : nameB (e : Int) E21 = b := n2
        have g1 : l.map decL = r2 := g1
        have g3 : l.length = r2.length := g3
        have c4 : r2.length + 1 + 1 = if e = 0 then 7 else 2 := c4
        subst h
        by_cases he : e = 0
        · rw [if_pos he] at c4
          obtain ⟨x1, x2, x3, x4, x5, rfl⟩ : ∃ x1 x2 x3 x4 x5, l = [x1, x2, x3, x4, x5] := by
            have hl5 : l.length = 5 := by omega
            match l, hl5 with
            | [x1, x2, x3, x4, x5], _ => exact ⟨x1, x2, x3, x4, x5, rfl⟩
          refine ⟨?_, ⟨⟨by show (0 : Int) ≤ (k : Int); omega, by show (k : Int) ≤ 6; omega, by show (0 : Int) ≤ (e : Int); omega, by show (e : Int) ≤ 20; omega⟩, .inl (by show (e : Int) = 0; omega)⟩, g2⟩
          show [nameB (k : Int) K7, nameB (e : Int) E21] ++ (if (e : Int) = 0 then [x1, x2, x3, x4, x5].map decL else []) = _
          rw [if_pos (by omega), n1, n2, g1]; rfl
        · rw [if_neg he] at c4
          have hl0 : l = [] := List.length_eq_zero_iff.1 (by omega)
          subst hl0
          refine ⟨?_, ⟨⟨by show (0 : Int) ≤ (k : Int); omega, by show (k : Int) ≤ 6; omega, by show (0 : Int) ≤ (e : Int); omega, by show (e : Int) ≤ 20; omega⟩, .inr ⟨rfl, rfl, rfl, rfl, rfl⟩⟩, fun n hn => ?_⟩
          · show [nameB (k : Int) K7, nameB (e : Int) E21] ++ (if (e : Int) = 0 then _ else []) = _
            rw [if_neg (by omega), n1, n2, ← g1]; rfl
          · have hn : n ∈ [0, 0, 0, 0, 0] := hn
            simp at hn
            omega
    | none =>
      rw [hl] at h
      exact absurd (show (4 : Int) = 0 from (Prod.mk.inj h).2) (by decide)
  · rw [parse_not hc] at h
    exact absurd (show (4 : Int) = 0 from (Prod.mk.inj h).2) (by decide)
theorem line_parse {s : List UInt8} {r : RP} (h : parseB s = (r, 0)) : lineB r = s ∧ r.right ∧ r.wf := by
  obtain ⟨h1, h2, h3⟩ := parse_back h
  refine ⟨?_, h2, h3⟩
  unfold lineB
  rw [if_pos h2, h1]
  exact join_sp s
theorem parse_bad (s : List UInt8) : (parseB s).2 = 0 ∨ parseB s = (RP.zero, 4) := by
  unfold parseB
  by_cases hc : Fits (sp s)
  · rw [parse_fits hc]
    cases numsB ((sp s).drop 2) with
    | some l => exact .inl rfl
    | none => exact .inr rfl
  · exact .inr (parse_not hc)
end Go.Proofs.YtcddgbobbogpgaaDoor.Rpl
