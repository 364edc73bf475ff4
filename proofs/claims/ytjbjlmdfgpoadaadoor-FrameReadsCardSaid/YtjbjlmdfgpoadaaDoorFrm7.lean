/- FRAMES: One. Conditions: the laid cell of errors.errorType; at most 2^40 bytes. -/
import Derived.Test.YtjbjlmdfgpoadaaDoorFrm6
namespace Go.Proofs.YtjbjlmdfgpoadaaDoor.Frm
open Go.RowKit Go.Mir Go.Mir.Parts Wr Cod Cut Rdr

theorem num_short {l : List UInt8} (h : l.length < 4) : (RD.new l).numV 4 = 0 ∧ (RD.new l).numS 4 = ⟨l, 0, some 2⟩ := by
  unfold RD.numV RD.numS RD.new
  rw [show fitsW 4 = true by decide]
  unfold RD.takeB RD.takeS
  dsimp only
  constructor
  · rw [if_neg (by omega)]; rfl
  · rw [if_neg (by simp), if_neg (by simp), if_pos (by omega)]
theorem num_full {l : List UInt8} (h : 4 ≤ l.length) : (RD.new l).numV 4 = beN (l.take 4) ∧ (RD.new l).numS 4 = ⟨l, 4, none⟩ := by
  have hk := take_in (l := l) (pos := 0) (m := 4) (by omega)
  unfold RD.numV RD.numS RD.new
  rw [show fitsW 4 = true by decide]
  exact ⟨by rw [show ((4 : Nat) : Int) = (4 : Int) from rfl] at hk; rw [hk.1]; rfl, by rw [show ((4 : Nat) : Int) = (4 : Int) from rfl] at hk; rw [hk.2]⟩
/-- what the second reader reads -/
def sec (l : List UInt8) (V : Nat) : RD := RD.new ((l.drop 4).take (min l.length (8 + V) - 4))
theorem sec_short {l : List UInt8} {V : Nat} (h4 : 4 ≤ l.length) (h : l.length < 8 + V) : (((sec l V).numS 4).takeS V true).err = 2 := by
  unfold sec
  rw [Nat.min_eq_left (by omega)]
  have hl : ((l.drop 4).take (l.length - 4)).length = l.length - 4 := by rw [List.length_take, List.length_drop]; omega
  by_cases h8 : l.length - 4 < 4
  · rw [(num_short (by rw [hl]; exact h8)).2]; rfl
  · rw [(num_full (by rw [hl]; omega)).2]
    unfold RD.takeS
    dsimp only
    rw [if_neg (by simp), if_neg (by simp), if_pos (by rw [hl]; omega)]
    rfl
theorem sec_full {l : List UInt8} {V : Nat} (h : 8 + V ≤ l.length) : (sec l V).numV 4 = beN ((l.drop 4).take 4) ∧ ((sec l V).numS 4).takeB V true = (l.drop 8).take V ∧ (((sec l V).numS 4).takeS V true).err = 0 := by
  unfold sec
  rw [Nat.min_eq_right (by omega)]
  have hl : ((l.drop 4).take (8 + V - 4)).length = 4 + V := by rw [List.length_take, List.length_drop]; omega
  obtain ⟨a, b⟩ := num_full (l := (l.drop 4).take (8 + V - 4)) (by rw [hl]; omega)
  have hk := take_in (l := (l.drop 4).take (8 + V - 4)) (pos := 4) (m := V) (by rw [hl]; omega)
  rw [a, b, hk.1, hk.2]
  refine ⟨by rw [List.take_take, Nat.min_eq_left (by omega)], ?_, rfl⟩
  rw [List.drop_take, List.drop_drop, List.take_take, Nat.min_eq_left (by omega)]
theorem crc_frame {l : List UInt8} {V : Nat} (h : 8 + V ≤ l.length) (hV : beN (l.take 4) = V) : (Crc.more 0#32 ([l.take 4, (l.drop 8).take V].flatten)).toNat = beN ((l.drop 4).take 4) ↔ frame ((l.drop 8).take V) = l.take (8 + V) := by
  have hlb : ((l.drop 8).take V).length = V := by rw [List.length_take, List.length_drop]; omega
  have h4 : (l.take 4).length = 4 := by rw [List.length_take]; omega
  have h44 : ((l.drop 4).take 4).length = 4 := by rw [List.length_take, List.length_drop]; omega
  have hbe : be V 4 = l.take 4 := by rw [← hV]; exact be_beN _ 4 h4 (by omega)
  have hsp : l.take (8 + V) = l.take 4 ++ (l.drop 4).take 4 ++ (l.drop 8).take V := by
    rw [show 8 + V = 4 + (4 + V) by omega, List.take_add, List.take_add, List.drop_drop, List.append_assoc]
  unfold frame
  rw [hlb, hbe, hsp]
  have hC := (Crc.more 0#32 ([l.take 4, (l.drop 8).take V].flatten)).isLt
  generalize (Crc.more 0#32 ([l.take 4, (l.drop 8).take V].flatten)).toNat = C at *
  constructor
  · intro hc
    rw [hc, be_beN _ 4 h44 (by omega)]
  · intro he
    have h1 := List.append_inj_left he (by simp [h4, h44, be_length])
    have h2 := List.append_inj_right h1 rfl
    rw [← h2, beN_be _ _ (by omega) (by omega)]
set_option maxRecDepth 100000 in
set_option maxHeartbeats 1600000 in
theorem one_any (p : Option Addr) (n c : Nat) (l : List UInt8) (w : World) (hE : EType w) (hB : Bs w p n c l) (hn : n ≤ 1099511627776) :
    Calls Tryd.prog 10 #[.slice p n c] w (OneP l w) := by
  have HB := Lib.hid hB
  have HN := Lib.hid hB.length
  have HE := Lib.hid hE
  have hle := hB.le
  have hmax := hB.max
  clear hB
  obtain ⟨m, hm⟩ : ∃ m, m = min n 4 := ⟨_, rfl⟩
  obtain ⟨V, hV⟩ : ∃ V, (RD.new (l.take m)).numV 4 = V := ⟨_, rfl⟩
  obtain ⟨s1, hs1⟩ : ∃ s1, (RD.new (l.take m)).numS 4 = s1 := ⟨_, rfl⟩
  have hV64 : V < 18446744073709551616 := by rw [← hV]; exact numV_lt _ _
  have HNO : Hid (¬ (1 ≤ V ∧ V ≤ 65536) → one l = ([], 0, (s1.fail 4).err) ∧ (s1.fail 4).err ≠ 0) := fun hno => by
    by_cases h4 : l.length < 4
    · have hml : l.take m = l := List.take_of_length_le (by rw [hm, HN.out]; have := HN.out; omega)
      rw [hml, (num_short h4).2] at hs1
      subst hs1
      exact ⟨by unfold one; rw [if_pos h4]; rfl, by simp [RD.fail, RD.err]⟩
    · have hml : m = 4 := by have := HN.out; omega
      have hl4 : 4 ≤ (l.take m).length := by rw [List.length_take]; omega
      rw [(num_full hl4).2] at hs1
      rw [(num_full hl4).1, hml, List.take_take] at hV
      subst hs1
      exact ⟨by unfold one; rw [if_neg h4, if_pos (by rw [show beN (l.take 4) = V from hV]; omega)]; rfl, by simp [RD.fail, RD.err]⟩
  have HYES : Hid (1 ≤ V ∧ V ≤ 65536 → 4 ≤ n ∧ V = beN (l.take 4) ∧ s1.err = 0) := fun hyes => by
    by_cases h4 : l.length < 4
    · have hml : l.take m = l := List.take_of_length_le (by rw [hm, HN.out]; have := HN.out; omega)
      rw [hml, (num_short h4).1] at hV
      omega
    · have hml : m = 4 := by have := HN.out; omega
      have hl4 : 4 ≤ (l.take m).length := by rw [List.length_take]; omega
      rw [(num_full hl4).2] at hs1
      rw [(num_full hl4).1, hml, List.take_take] at hV
      subst hs1
      exact ⟨by have := HN.out; omega, hV.symm, rfl⟩
  have HV := Lib.hid hV
  have HS1 := Lib.hid hs1
  clear hV hs1
  have hmi : (if (4 : Int) < (n : Int) then (4 : Int) else (n : Int)) = (m : Int) := by split <;> omega
  have hmi2 : (if 4 < n then (4 : Int) else (n : Int)) = (m : Int) := by split <;> omega
  have hcut := cut0 HB.out m (m : Int) rfl (by omega)
  have HG := Lib.hid hE.lt
  have HM := Lib.hid hm
  have HBM := Lib.hid (bs_take HB.out (k := m) (by omega))
  have hm4 : m ≤ 4 := by omega
  clear hE hm
  go_enter Tryd.func10, Tryd.ntmps10
  go_wp2_with fail
  refine (Rdr.new_any w p m c (l.take m) HBM.out (by omega)).mono ?_
  rintro e w1 ⟨rb, rfl, hr1, hb1⟩
  have HR1 := Lib.hid hr1
  have HB1 := Lib.hid hb1
  clear hr1 hb1 hcut hmi hmi2
  go_wp2_with fail
  refine (num_any _ HR1.out 4 (by omega)).mono ?_
  rintro e w2 ⟨rfl, hl2⟩
  have HB2 := Lib.hid (HB1.out.trans (hl2.turn.below HB1.out.size (fun i hi => by obtain ⟨v, bv, h⟩ := HR1.out; have := h.low; omega)))
  have HR2 := Lib.hid hl2.there
  clear hl2 HR1 HB1
  rw [HV.out]
  rw [HS1.out] at HR2
  have HE2 := Lib.hid (HE.out.below HB2.out HG.out)
  by_cases hfit : 1 ≤ V ∧ V ≤ 65536
  rotate_left
  · have HFT : Hid (decide (1 ≤ V ∧ V ≤ 65536) = false) := decide_eq_false hfit
    obtain ⟨ho, hz⟩ := HNO.out hfit
    have HO := Lib.hid ho
    have hz1 : ((s1.fail 4).err != 0) = true := by rw [bne_iff_ne]; exact hz
    clear hfit ho hz
    go_wp2_with fail
    refine (fits_any V hV64 w2).mono ?_
    rintro e w3 ⟨rfl, rfl⟩
    rw [HFT.out]
    go_wp2_with fail
    refine (fail_any _ HR2.out 4 (by omega)).mono ?_
    rintro e w3 ⟨rfl, hl3⟩
    have HB3 := Lib.hid (HB2.out.trans (hl3.turn.below HB2.out.size (fun i hi => by obtain ⟨v, bv, h⟩ := HR2.out; have := h.low; omega)))
    have HR3 := Lib.hid hl3.there
    have HE3 := Lib.hid (HE.out.below HB3.out HG.out)
    clear hl3
    go_wp2_with fail
    refine (err_any _ HR3.out HE3.out).mono ?_
    rintro e w4 ⟨rfl, hb4⟩
    have HB4 := Lib.hid (HB3.out.trans (hb4.mono HB3.out.size))
    clear hb4
    generalize (s1.fail 4).err = E at *
    go_wp2_with fail
    refine bodyPost_ret (results_tmp3 rfl _ _) rfl ?_
    unfold OneP
    rw [HO.out]
    exact ⟨none, 0, rfl, ⟨rfl, .inl ⟨rfl, rfl⟩⟩, HB4.out⟩
  have HFT : Hid (decide (1 ≤ V ∧ V ≤ 65536) = true) := decide_eq_true hfit
  obtain ⟨h4, hVe, hs0⟩ := HYES.out hfit
  have HVE := Lib.hid hVe
  have HS0 := Lib.hid hs0
  obtain ⟨hf1, hf2⟩ := hfit
  clear hVe hs0 HNO HYES
  go_wp2_with fail
  refine (fits_any V hV64 w2).mono ?_
  rintro e w3 ⟨rfl, rfl⟩
  rw [HFT.out]
  go_wp2_with fail
  refine (err_any _ HR2.out HE2.out).mono ?_
  rintro e w3 ⟨rfl, hb3⟩
  have HB3 := Lib.hid (HB2.out.trans (hb3.mono HB2.out.size))
  clear hb3 HR2 HB2 HE2 HS1 HV HFT
  rw [HS0.out]
  clear HS0
  obtain ⟨M, hM⟩ : ∃ M, M = min n (8 + V) := ⟨_, rfl⟩
  have hw8 : IntKind.i64.wrap (V : Int) = (V : Int) := by rw [IntWalk.i64_in _ (by omega)]
  have hw9 : IntKind.i64.wrap (8 + (V : Int)) = 8 + (V : Int) := by rw [IntWalk.i64_in _ (by omega)]
  have hmi : (if (8 : Int) + (V : Int) < (n : Int) then (8 : Int) + (V : Int) else (n : Int)) = (M : Int) := by split <;> omega
  have hmi2 : (if 8 + V < n then (8 : Int) + (V : Int) else (n : Int)) = (M : Int) := by split <;> omega
  have hM4 : 4 ≤ M ∧ M ≤ n := by omega
  have HSL := Lib.hid (HB.out.below HB3.out)
  have hcut := cut3 HSL.out 4 (M - 4) 4 (M : Int) rfl (by omega) (by omega)
  have HSM := Lib.hid (bs_cut HSL.out 4 (M - 4) (by omega))
  have HMM := Lib.hid hM
  clear hM
  have hsec : RD.new ((l.drop 4).take (M - 4)) = sec l V := by unfold sec; rw [HMM.out, HN.out]
  go_wp2_with fail
  refine (Rdr.new_any w3 _ _ _ _ HSM.out (by omega)).mono ?_
  rintro e w4 ⟨r4, rfl, hr4, hb4⟩
  rw [hsec] at hr4
  have HR4 := Lib.hid hr4
  have HB4 := Lib.hid (HB3.out.trans (hb4.mono HB3.out.size))
  have HX4 := Lib.hid hb4
  clear hr4 hb4 hcut hmi hmi2 hsec
  go_wp2_with fail
  refine (num_any _ HR4.out 4 (by omega)).mono ?_
  rintro e w5 ⟨rfl, hl5⟩
  have HL5 := Lib.hid hl5
  clear hl5
  go_wp2_with fail
  refine (bytes_any _ HL5.out.there (V : Int) (by omega)).mono ?_
  rintro e w6 ⟨p6, c6, rfl, ho6, hl6⟩
  have hl46 := HL5.out.trans hl6
  have HB6 := Lib.hid (HB4.out.trans (hl46.turn.below HB4.out.size (fun i hi => by obtain ⟨v, bv, h⟩ := HR4.out; have := h.low; have := HB3.out.size; omega)))
  have HR6 := Lib.hid hl46.there
  have ho6' := own_base (base' := w.heap.size) ho6 (fun k hk => by have h1 := (ho6.lt k hk).1; have h2 := HB4.out.size; have h3 := HL5.out.turn.size; omega)
  have HO6 := Lib.hid ho6'
  have HE6 := Lib.hid (HE.out.below HB6.out HG.out)
  clear ho6 hl6 hl46 HL5 HR4 ho6'
  go_wp2_with fail
  refine (err_any _ HR6.out HE6.out).mono ?_
  rintro e w7 ⟨rfl, hb7⟩
  have HB7 := Lib.hid (HB6.out.trans (hb7.mono HB6.out.size))
  have ho7 := own_touch HO6.out (Turns.of_below (S := fun _ => False) hb7) (fun _ _ h => h)
  have HO7 := Lib.hid ho7
  clear hb7 HR6 HO6 HE6 ho7
  by_cases hful : 8 + V ≤ n
  rotate_left
  · have hss := sec_short (l := l) (V := V) (by rw [HN.out]; exact h4) (by rw [HN.out]; omega)
    rw [hss]
    have HO : Hid (one l = ([], 0, 2)) := by
      show _ = _
      unfold one
      rw [if_neg (by rw [HN.out]; omega), if_neg (by rw [← HVE.out]; omega), if_pos (by rw [← HVE.out, HN.out]; omega)]
    clear hss hful
    generalize (sec l V).numV 4 = SUM at *
    generalize ((sec l V).numS 4).takeB (V : Int) true = BODY at *
    go_wp2_with fail
    refine bodyPost_ret (results_tmp3 rfl _ _) rfl ?_
    unfold OneP
    rw [HO.out]
    exact ⟨none, 0, rfl, ⟨rfl, .inl ⟨rfl, rfl⟩⟩, HB7.out⟩
  obtain ⟨f1, f2, f3⟩ := sec_full (l := l) (V := V) (by rw [HN.out]; exact hful)
  have HCF := Lib.hid (crc_frame (l := l) (V := V) (by rw [HN.out]; exact hful) HVE.out.symm)
  have HON : Hid (one l = if frame ((l.drop 8).take V) = l.take (8 + V) then ((l.drop 8).take V, 8 + V, 0) else ([], 0, 9)) := by
    show _ = _
    unfold one
    rw [if_neg (by rw [HN.out]; omega), if_neg (by rw [← HVE.out]; omega), if_neg (by rw [← HVE.out, HN.out]; omega), ← HVE.out]
  rw [f1, f2, f3]
  rw [f2] at HO7
  have HLB : Hid (((l.drop 8).take V).length = V) := by show _ = _; rw [List.length_take, List.length_drop, HN.out]; omega
  have hb4 := beN_lt_pow ((l.drop 4).take 4)
  rw [List.length_take, List.length_drop, HN.out, Nat.min_eq_left (by omega)] at hb4
  have HSL7 := Lib.hid (HB.out.below HB7.out)
  clear f1 f2 f3 HVE
  generalize hbody : (l.drop 8).take V = body at *
  generalize beN ((l.drop 4).take 4) = SUM at *
  have hw32 : IntKind.u32.wrap (SUM : Int) = (SUM : Int) := by rw [IntKind.wrap_u32]; omega
  have hcut := cut0 HSL7.out 4 4 rfl (by omega)
  rw [HLB.out] at HO7 ⊢
  have HP := Lib.hid (Pts.made2 (bs_take HSL7.out (k := 4) (by omega)) (own_bs HO7.out) 22 rfl)
  go_wp2_with fail
  refine (CrcW.of_any _ _ _ [l.take 4, body] _ HP.out).mono ?_
  rintro e w8 ⟨rfl, hb8⟩
  have hal : Below w7.heap.size w7 (w7.alloc (.cells #[.slice p 4 c, .slice p6 V c6] 22)) := Below.allocs _ _
  have hb78 := hal.trans (hb8.mono hal.size)
  have HB8 := Lib.hid (HB7.out.trans (hb78.mono HB7.out.size))
  have ho8 := own_touch HO7.out (Turns.of_below (S := fun _ => False) hb78) (fun _ _ h => h)
  have HO8 := Lib.hid ho8
  clear hb8 hal hb78 ho8 HO7 HP hcut HSL7
  obtain ⟨C, hC⟩ : ∃ C, (Crc.more 0#32 ([l.take 4, body].flatten)).toNat = C := ⟨_, rfl⟩
  rw [hC] at HCF ⊢
  clear hC
  by_cases hq : C = SUM
  · have hqb : ((C : Int) != (SUM : Int)) = false := by rw [bne_eq_false_iff_eq]; omega
    have HR : Hid (one l = (body, 8 + V, 0)) := by show _ = _; rw [HON.out, if_pos (HCF.out.1 hq)]
    clear hq HCF HON hbody
    go_wp2_with fail
    refine (size_any p6 V c6 (by omega) _).mono ?_
    rintro e w9 ⟨rfl, rfl⟩
    go_wp2_with fail
    refine bodyPost_ret (results_tmp3 rfl _ _) rfl ?_
    unfold OneP
    rw [HR.out]
    dsimp only
    rw [HLB.out]
    exact ⟨p6, c6, rfl, HO8.out, HB8.out⟩
  · have hqb : ((C : Int) != (SUM : Int)) = true := by rw [bne_iff_ne]; omega
    have HR : Hid (one l = ([], 0, 9)) := by show _ = _; rw [HON.out, if_neg (fun h => hq (HCF.out.2 h))]
    clear hq HCF HON hbody
    go_wp2_with fail
    refine bodyPost_ret (results_tmp3 rfl _ _) rfl ?_
    unfold OneP
    rw [HR.out]
    exact ⟨none, 0, rfl, ⟨rfl, .inl ⟨rfl, rfl⟩⟩, HB8.out⟩
end Go.Proofs.YtjbjlmdfgpoadaaDoor.Frm
