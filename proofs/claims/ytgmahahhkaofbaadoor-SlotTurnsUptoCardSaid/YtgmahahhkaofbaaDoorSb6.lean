/- PARTS, JOINED: FRAMES: One. Conditions: the laid cell of errors.errorType; at most 2^40 bytes. A [][]byte THAT THE CALL OWNS, each element a slice of bytes that it does not overwrite. Conditions: none. FRAMES: all frames one behind the other, plain; the reference's Scan. Conditions: at most 4000 bytes. A RANGE OVER A FUNCTION WHOSE ROUNDS ARE HANDED MEMORY THAT THE ITERATOR HAS LAID: the iterator tells of each element what it knows of the world ('G'). No program is named. Conditions: none. FRAMES: All, and its function. Conditions: the laid cell of errors.errorType; at most 4000 bytes. FRAMES: Scan. Conditions: the laid cell of errors.errorType; at most 4000 bytes. FRAMES: the reference's Same: are lists of bytes the same? Conditions: none. CRC: the walk of the statement CrcTurned. FRAMES, plain: there and back, torn, turned, one behind the other. Conditions: none. PLAIN PART OF THE ROLL: what it does to a disk of one file, and what a crash leaves. Conditions: none. A DISK BESIDE OTHER MEMORY: what its calls leave, and what they leave alone. Conditions: none. PLAIN PART OF SLOTS: what a file tells, which file is current, what a snapshot put does to a disk. Conditions: none. SLOTS BESIDE OTHER MEMORY: their row, what their calls leave. Conditions: none. -/
import Derived.Test.YtgmahahhkaofbaaDoorSb1
import Derived.Test.YtgmahahhkaofbaaDoorSb2
import Derived.Test.YtgmahahhkaofbaaDoorSb3
import Derived.Test.YtgmahahhkaofbaaDoorSb4
import Derived.Test.YtgmahahhkaofbaaDoorSb5
import Derived.Test.YtgmahahhkaofbaaDoorChecked
import Derived.RangeFuncNested
import Derived.RangeFuncBound
import Derived.RangeFuncCalls
import Derived.RangeFuncLeaves
import Derived.RangeFuncBox
import Derived.Shelf.Abstract
import Derived.Shelf.RegionOpen
import Derived.WalkKit
import Derived.OwnWalkIn
import Derived.TacticsInMore
import Derived.LoopNIn
import Derived.LoopIn
import Derived.Maps.AppendAt
import Derived.BigRegion
import Derived.Laws.ShiftsVar
namespace Go.Proofs.YtgmahahhkaofbaaDoor.Frm
open Go.RowKit Go.Mir Go.Mir.Parts Wr Cod Cut Rdr

theorem num_short {l : List UInt8} (h : l.length < 4) : (RD.new l).numV 4 = 0 ∧ (RD.new l).numS 4 = ⟨l, 0, some 2⟩ := by
  unfold RD.numV RD.numS RD.new
  rw [show fitsW 4 = true by decide]
  unfold RD.takeB RD.takeS
  dsimp only
  constructor
  · rw [if_neg (by omega)]; rfl
  · rw [if_neg (by simp), if_neg (by simp), if_pos (by omega)]
theorem num_full {l : List UInt8} (h : 4 ≤ l.length) : (RD.new l).numV 4 = beN (l.take 4) ∧ (RD.new l).numS 4 = ⟨l, 4, none⟩ := by
  have hk := take_in (l := l) (pos := 0) (m := 4) (by omega)
  unfold RD.numV RD.numS RD.new
  rw [show fitsW 4 = true by decide]
  exact ⟨by rw [show ((4 : Nat) : Int) = (4 : Int) from rfl] at hk; rw [hk.1]; rfl, by rw [show ((4 : Nat) : Int) = (4 : Int) from rfl] at hk; rw [hk.2]⟩
/-- what the second reader reads -/
def sec (l : List UInt8) (V : Nat) : RD := RD.new ((l.drop 4).take (min l.length (8 + V) - 4))
theorem sec_short {l : List UInt8} {V : Nat} (h4 : 4 ≤ l.length) (h : l.length < 8 + V) : (((sec l V).numS 4).takeS V true).err = 2 := by
  unfold sec
  rw [Nat.min_eq_left (by omega)]
  have hl : ((l.drop 4).take (l.length - 4)).length = l.length - 4 := by rw [List.length_take, List.length_drop]; omega
  by_cases h8 : l.length - 4 < 4
  · rw [(num_short (by rw [hl]; exact h8)).2]; rfl
  · rw [(num_full (by rw [hl]; omega)).2]
    unfold RD.takeS
    dsimp only
    rw [if_neg (by simp), if_neg (by simp), if_pos (by rw [hl]; omega)]
    rfl
theorem sec_full {l : List UInt8} {V : Nat} (h : 8 + V ≤ l.length) : (sec l V).numV 4 = beN ((l.drop 4).take 4) ∧ ((sec l V).numS 4).takeB V true = (l.drop 8).take V ∧ (((sec l V).numS 4).takeS V true).err = 0 := by
  unfold sec
  rw [Nat.min_eq_right (by omega)]
  have hl : ((l.drop 4).take (8 + V - 4)).length = 4 + V := by rw [List.length_take, List.length_drop]; omega
  obtain ⟨a, b⟩ := num_full (l := (l.drop 4).take (8 + V - 4)) (by rw [hl]; omega)
  have hk := take_in (l := (l.drop 4).take (8 + V - 4)) (pos := 4) (m := V) (by rw [hl]; omega)
  rw [a, b, hk.1, hk.2]
  refine ⟨by rw [List.take_take, Nat.min_eq_left (by omega)], ?_, rfl⟩
  rw [List.drop_take, List.drop_drop, List.take_take, Nat.min_eq_left (by omega)]
theorem crc_frame {l : List UInt8} {V : Nat} (h : 8 + V ≤ l.length) (hV : beN (l.take 4) = V) : (Crc.more 0#32 ([l.take 4, (l.drop 8).take V].flatten)).toNat = beN ((l.drop 4).take 4) ↔ frame ((l.drop 8).take V) = l.take (8 + V) := by
  have hlb : ((l.drop 8).take V).length = V := by rw [List.length_take, List.length_drop]; omega
  have h4 : (l.take 4).length = 4 := by rw [List.length_take]; omega
  have h44 : ((l.drop 4).take 4).length = 4 := by rw [List.length_take, List.length_drop]; omega
  have hbe : be V 4 = l.take 4 := by rw [← hV]; exact be_beN _ 4 h4 (by omega)
  have hsp : l.take (8 + V) = l.take 4 ++ (l.drop 4).take 4 ++ (l.drop 8).take V := by
    rw [show 8 + V = 4 + (4 + V) by omega, List.take_add, List.take_add, List.drop_drop, List.append_assoc]
  unfold frame
  rw [hlb, hbe, hsp]
  have hC := (Crc.more 0#32 ([l.take 4, (l.drop 8).take V].flatten)).isLt
  generalize (Crc.more 0#32 ([l.take 4, (l.drop 8).take V].flatten)).toNat = C at *
  constructor
  · intro hc
    rw [hc, be_beN _ 4 h44 (by omega)]
  · intro he
    have h1 := List.append_inj_left he (by simp [h4, h44, be_length])
    have h2 := List.append_inj_right h1 rfl
    rw [← h2, beN_be _ _ (by omega) (by omega)]
set_option maxRecDepth 100000 in
set_option maxHeartbeats 1600000 in
theorem one_any (p : Option Addr) (n c : Nat) (l : List UInt8) (w : World) (hE : EType w) (hB : Bs w p n c l) (hn : n ≤ 1099511627776) :
    Calls Tryd.prog 45 #[.slice p n c] w (OneP l w) := by
  have HB := Lib.hid hB
  have HN := Lib.hid hB.length
  have HE := Lib.hid hE
  have hle := hB.le
  have hmax := hB.max
  clear hB
  obtain ⟨m, hm⟩ : ∃ m, m = min n 4 := ⟨_, rfl⟩
  obtain ⟨V, hV⟩ : ∃ V, (RD.new (l.take m)).numV 4 = V := ⟨_, rfl⟩
  obtain ⟨s1, hs1⟩ : ∃ s1, (RD.new (l.take m)).numS 4 = s1 := ⟨_, rfl⟩
  have hV64 : V < 18446744073709551616 := by rw [← hV]; exact numV_lt _ _
  have HNO : Hid (¬ (1 ≤ V ∧ V ≤ 65536) → one l = ([], 0, (s1.fail 4).err) ∧ (s1.fail 4).err ≠ 0) := fun hno => by
    by_cases h4 : l.length < 4
    · have hml : l.take m = l := List.take_of_length_le (by rw [hm, HN.out]; have := HN.out; omega)
      rw [hml, (num_short h4).2] at hs1
      subst hs1
      exact ⟨by unfold one; rw [if_pos h4]; rfl, by simp [RD.fail, RD.err]⟩
    · have hml : m = 4 := by have := HN.out; omega
      have hl4 : 4 ≤ (l.take m).length := by rw [List.length_take]; omega
      rw [(num_full hl4).2] at hs1
      rw [(num_full hl4).1, hml, List.take_take] at hV
      subst hs1
      exact ⟨by unfold one; rw [if_neg h4, if_pos (by rw [show beN (l.take 4) = V from hV]; omega)]; rfl, by simp [RD.fail, RD.err]⟩
  have HYES : Hid (1 ≤ V ∧ V ≤ 65536 → 4 ≤ n ∧ V = beN (l.take 4) ∧ s1.err = 0) := fun hyes => by
    by_cases h4 : l.length < 4
    · have hml : l.take m = l := List.take_of_length_le (by rw [hm, HN.out]; have := HN.out; omega)
      rw [hml, (num_short h4).1] at hV
      omega
    · have hml : m = 4 := by have := HN.out; omega
      have hl4 : 4 ≤ (l.take m).length := by rw [List.length_take]; omega
      rw [(num_full hl4).2] at hs1
      rw [(num_full hl4).1, hml, List.take_take] at hV
      subst hs1
      exact ⟨by have := HN.out; omega, hV.symm, rfl⟩
  have HV := Lib.hid hV
  have HS1 := Lib.hid hs1
  clear hV hs1
  have hmi : (if (4 : Int) < (n : Int) then (4 : Int) else (n : Int)) = (m : Int) := by split <;> omega
  have hmi2 : (if 4 < n then (4 : Int) else (n : Int)) = (m : Int) := by split <;> omega
  have hcut := cut0 HB.out m (m : Int) rfl (by omega)
  have HG := Lib.hid hE.lt
  have HM := Lib.hid hm
  have HBM := Lib.hid (bs_take HB.out (k := m) (by omega))
  have hm4 : m ≤ 4 := by omega
  clear hE hm
  go_enter Tryd.func45, Tryd.ntmps45
  go_wp2_with fail
  refine (Rdr.new_any w p m c (l.take m) HBM.out (by omega)).mono ?_
  rintro e w1 ⟨rb, rfl, hr1, hb1⟩
  have HR1 := Lib.hid hr1
  have HB1 := Lib.hid hb1
  clear hr1 hb1 hcut hmi hmi2
  go_wp2_with fail
  refine (num_any _ HR1.out 4 (by omega)).mono ?_
  rintro e w2 ⟨rfl, hl2⟩
  have HB2 := Lib.hid (HB1.out.trans (hl2.turn.below HB1.out.size (fun i hi => by obtain ⟨v, bv, h⟩ := HR1.out; have := h.low; omega)))
  have HR2 := Lib.hid hl2.there
  clear hl2 HR1 HB1
  rw [HV.out]
  rw [HS1.out] at HR2
  have HE2 := Lib.hid (HE.out.below HB2.out HG.out)
  by_cases hfit : 1 ≤ V ∧ V ≤ 65536
  rotate_left
  · have HFT : Hid (decide (1 ≤ V ∧ V ≤ 65536) = false) := decide_eq_false hfit
    obtain ⟨ho, hz⟩ := HNO.out hfit
    have HO := Lib.hid ho
    have hz1 : ((s1.fail 4).err != 0) = true := by rw [bne_iff_ne]; exact hz
    clear hfit ho hz
    go_wp2_with fail
    refine (fits_any V hV64 w2).mono ?_
    rintro e w3 ⟨rfl, rfl⟩
    rw [HFT.out]
    go_wp2_with fail
    refine (fail_any _ HR2.out 4 (by omega)).mono ?_
    rintro e w3 ⟨rfl, hl3⟩
    have HB3 := Lib.hid (HB2.out.trans (hl3.turn.below HB2.out.size (fun i hi => by obtain ⟨v, bv, h⟩ := HR2.out; have := h.low; omega)))
    have HR3 := Lib.hid hl3.there
    have HE3 := Lib.hid (HE.out.below HB3.out HG.out)
    clear hl3
    go_wp2_with fail
    refine (err_any _ HR3.out HE3.out).mono ?_
    rintro e w4 ⟨rfl, hb4⟩
    have HB4 := Lib.hid (HB3.out.trans (hb4.mono HB3.out.size))
    clear hb4
    generalize (s1.fail 4).err = E at *
    go_wp2_with fail
    refine bodyPost_ret (results_tmp3 rfl _ _) rfl ?_
    unfold OneP
    rw [HO.out]
    exact ⟨none, 0, rfl, ⟨rfl, .inl ⟨rfl, rfl⟩⟩, HB4.out⟩
  have HFT : Hid (decide (1 ≤ V ∧ V ≤ 65536) = true) := decide_eq_true hfit
  obtain ⟨h4, hVe, hs0⟩ := HYES.out hfit
  have HVE := Lib.hid hVe
  have HS0 := Lib.hid hs0
  obtain ⟨hf1, hf2⟩ := hfit
  clear hVe hs0 HNO HYES
  go_wp2_with fail
  refine (fits_any V hV64 w2).mono ?_
  rintro e w3 ⟨rfl, rfl⟩
  rw [HFT.out]
  go_wp2_with fail
  refine (err_any _ HR2.out HE2.out).mono ?_
  rintro e w3 ⟨rfl, hb3⟩
  have HB3 := Lib.hid (HB2.out.trans (hb3.mono HB2.out.size))
  clear hb3 HR2 HB2 HE2 HS1 HV HFT
  rw [HS0.out]
  clear HS0
  obtain ⟨M, hM⟩ : ∃ M, M = min n (8 + V) := ⟨_, rfl⟩
  have hw8 : IntKind.i64.wrap (V : Int) = (V : Int) := by rw [IntWalk.i64_in _ (by omega)]
  have hw9 : IntKind.i64.wrap (8 + (V : Int)) = 8 + (V : Int) := by rw [IntWalk.i64_in _ (by omega)]
  have hmi : (if (8 : Int) + (V : Int) < (n : Int) then (8 : Int) + (V : Int) else (n : Int)) = (M : Int) := by split <;> omega
  have hmi2 : (if 8 + V < n then (8 : Int) + (V : Int) else (n : Int)) = (M : Int) := by split <;> omega
  have hM4 : 4 ≤ M ∧ M ≤ n := by omega
  have HSL := Lib.hid (HB.out.below HB3.out)
  have hcut := cut3 HSL.out 4 (M - 4) 4 (M : Int) rfl (by omega) (by omega)
  have HSM := Lib.hid (bs_cut HSL.out 4 (M - 4) (by omega))
  have HMM := Lib.hid hM
  clear hM
  have hsec : RD.new ((l.drop 4).take (M - 4)) = sec l V := by unfold sec; rw [HMM.out, HN.out]
  go_wp2_with fail
  refine (Rdr.new_any w3 _ _ _ _ HSM.out (by omega)).mono ?_
  rintro e w4 ⟨r4, rfl, hr4, hb4⟩
  rw [hsec] at hr4
  have HR4 := Lib.hid hr4
  have HB4 := Lib.hid (HB3.out.trans (hb4.mono HB3.out.size))
  have HX4 := Lib.hid hb4
  clear hr4 hb4 hcut hmi hmi2 hsec
  go_wp2_with fail
  refine (num_any _ HR4.out 4 (by omega)).mono ?_
  rintro e w5 ⟨rfl, hl5⟩
  have HL5 := Lib.hid hl5
  clear hl5
  go_wp2_with fail
  refine (bytes_any _ HL5.out.there (V : Int) (by omega)).mono ?_
  rintro e w6 ⟨p6, c6, rfl, ho6, hl6⟩
  have hl46 := HL5.out.trans hl6
  have HB6 := Lib.hid (HB4.out.trans (hl46.turn.below HB4.out.size (fun i hi => by obtain ⟨v, bv, h⟩ := HR4.out; have := h.low; have := HB3.out.size; omega)))
  have HR6 := Lib.hid hl46.there
  have ho6' := own_base (base' := w.heap.size) ho6 (fun k hk => by have h1 := (ho6.lt k hk).1; have h2 := HB4.out.size; have h3 := HL5.out.turn.size; omega)
  have HO6 := Lib.hid ho6'
  have HE6 := Lib.hid (HE.out.below HB6.out HG.out)
  clear ho6 hl6 hl46 HL5 HR4 ho6'
  go_wp2_with fail
  refine (err_any _ HR6.out HE6.out).mono ?_
  rintro e w7 ⟨rfl, hb7⟩
  have HB7 := Lib.hid (HB6.out.trans (hb7.mono HB6.out.size))
  have ho7 := own_touch HO6.out (Turns.of_below (S := fun _ => False) hb7) (fun _ _ h => h)
  have HO7 := Lib.hid ho7
  clear hb7 HR6 HO6 HE6 ho7
  by_cases hful : 8 + V ≤ n
  rotate_left
  · have hss := sec_short (l := l) (V := V) (by rw [HN.out]; exact h4) (by rw [HN.out]; omega)
    rw [hss]
    have HO : Hid (one l = ([], 0, 2)) := by
      show _ = _
      unfold one
      rw [if_neg (by rw [HN.out]; omega), if_neg (by rw [← HVE.out]; omega), if_pos (by rw [← HVE.out, HN.out]; omega)]
    clear hss hful
    generalize (sec l V).numV 4 = SUM at *
    generalize ((sec l V).numS 4).takeB (V : Int) true = BODY at *
    go_wp2_with fail
    refine bodyPost_ret (results_tmp3 rfl _ _) rfl ?_
    unfold OneP
    rw [HO.out]
    exact ⟨none, 0, rfl, ⟨rfl, .inl ⟨rfl, rfl⟩⟩, HB7.out⟩
  obtain ⟨f1, f2, f3⟩ := sec_full (l := l) (V := V) (by rw [HN.out]; exact hful)
  have HCF := Lib.hid (crc_frame (l := l) (V := V) (by rw [HN.out]; exact hful) HVE.out.symm)
  have HON : Hid (one l = if frame ((l.drop 8).take V) = l.take (8 + V) then ((l.drop 8).take V, 8 + V, 0) else ([], 0, 9)) := by
    show _ = _
    unfold one
    rw [if_neg (by rw [HN.out]; omega), if_neg (by rw [← HVE.out]; omega), if_neg (by rw [← HVE.out, HN.out]; omega), ← HVE.out]
  rw [f1, f2, f3]
  rw [f2] at HO7
  have HLB : Hid (((l.drop 8).take V).length = V) := by show _ = _; rw [List.length_take, List.length_drop, HN.out]; omega
  have hb4 := beN_lt_pow ((l.drop 4).take 4)
  rw [List.length_take, List.length_drop, HN.out, Nat.min_eq_left (by omega)] at hb4
  have HSL7 := Lib.hid (HB.out.below HB7.out)
  clear f1 f2 f3 HVE
  generalize hbody : (l.drop 8).take V = body at *
  generalize beN ((l.drop 4).take 4) = SUM at *
  have hw32 : IntKind.u32.wrap (SUM : Int) = (SUM : Int) := by rw [IntKind.wrap_u32]; omega
  have hcut := cut0 HSL7.out 4 4 rfl (by omega)
  rw [HLB.out] at HO7 ⊢
  have HP := Lib.hid (Pts.made2 (bs_take HSL7.out (k := 4) (by omega)) (own_bs HO7.out) 31 rfl)
  go_wp2_with fail
  refine (CrcW.of_any _ _ _ [l.take 4, body] _ HP.out).mono ?_
  rintro e w8 ⟨rfl, hb8⟩
  have hal : Below w7.heap.size w7 (w7.alloc (.cells #[.slice p 4 c, .slice p6 V c6] 31)) := Below.allocs _ _
  have hb78 := hal.trans (hb8.mono hal.size)
  have HB8 := Lib.hid (HB7.out.trans (hb78.mono HB7.out.size))
  have ho8 := own_touch HO7.out (Turns.of_below (S := fun _ => False) hb78) (fun _ _ h => h)
  have HO8 := Lib.hid ho8
  clear hb8 hal hb78 ho8 HO7 HP hcut HSL7
  obtain ⟨C, hC⟩ : ∃ C, (Crc.more 0#32 ([l.take 4, body].flatten)).toNat = C := ⟨_, rfl⟩
  rw [hC] at HCF ⊢
  clear hC
  by_cases hq : C = SUM
  · have hqb : ((C : Int) != (SUM : Int)) = false := by rw [bne_eq_false_iff_eq]; omega
    have HR : Hid (one l = (body, 8 + V, 0)) := by show _ = _; rw [HON.out, if_pos (HCF.out.1 hq)]
    clear hq HCF HON hbody
    go_wp2_with fail
    refine (size_any p6 V c6 (by omega) _).mono ?_
    rintro e w9 ⟨rfl, rfl⟩
    go_wp2_with fail
    refine bodyPost_ret (results_tmp3 rfl _ _) rfl ?_
    unfold OneP
    rw [HR.out]
    dsimp only
    rw [HLB.out]
    exact ⟨p6, c6, rfl, HO8.out, HB8.out⟩
  · have hqb : ((C : Int) != (SUM : Int)) = true := by rw [bne_iff_ne]; omega
    have HR : Hid (one l = ([], 0, 9)) := by show _ = _; rw [HON.out, if_neg (fun h => hq (HCF.out.2 h))]
    clear hq HCF HON hbody
    go_wp2_with fail
    refine bodyPost_ret (results_tmp3 rfl _ _) rfl ?_
    unfold OneP
    rw [HR.out]
    exact ⟨none, 0, rfl, ⟨rfl, .inl ⟨rfl, rfl⟩⟩, HB8.out⟩
end Go.Proofs.YtgmahahhkaofbaaDoor.Frm

namespace Go.Proofs.YtgmahahhkaofbaaDoor.Cut
open Go.RowKit Go.Mir Go.Mir.Parts

structure Ls (w : World) (base : Nat) (v : Value) (ls : List (List UInt8)) : Prop where
  all : ∃ hs : List Value, w.ownsRow base 31 1 v ls.length hs ∧ ∀ j (h : j < ls.length), ∃ q k, hs[j]? = some (.slice q ls[j].length k) ∧ Bs w q ls[j].length k ls[j] ∧ (∀ a, q = some a → 0 < ls[j].length → ¬ v.ownBlock = some a.block)
theorem Ls.nil (w : World) (base : Nat) : Ls w base (.slice none 0 0) [] := ⟨[], World.ownsRow_nil _ _ _ _, fun j h => by simp at h⟩
theorem Ls.below {w w' : World} {base : Nat} {v : Value} {ls : List (List UInt8)} (h : Ls w base v ls) (hb : Below w.heap.size w w') : Ls w' base v ls := by
  obtain ⟨hs, h1, h2⟩ := h.all
  exact ⟨hs, own_touch h1 (Turns.of_below (S := fun _ => False) hb) (fun _ _ h => h), fun j hj => by
    obtain ⟨q, k, a, b, c⟩ := h2 j hj
    exact ⟨q, k, a, b.below hb, c⟩⟩
theorem Ls.low {w : World} {base base' : Nat} {v : Value} {ls : List (List UInt8)} (h : Ls w base v ls) (hb : base' ≤ base) : Ls w base' v ls := by
  obtain ⟨hs, h1, h2⟩ := h.all
  exact ⟨hs, own_base h1 (fun k hk => by have := (h1.lt k hk).1; omega), h2⟩
theorem Ls.sl {w : World} {base : Nat} {v : Value} {ls : List (List UInt8)} (h : Ls w base v ls) : ∃ p c, v = .slice p ls.length c ∧ Pts w p ls.length c ls := by
  obtain ⟨hs, h1, h2⟩ := h.all
  obtain ⟨p, c, rfl, hS⟩ := own_sl h1
  refine ⟨p, c, rfl, rfl, hS.le, hS.max, hS.nil0, fun a ha j hj => ?_⟩
  obtain ⟨q, k, e1, e2, _⟩ := h2 j hj
  exact ⟨q, _, k, hS.cell a ha j _ e1, e2⟩
/-- a block of bytes is none of slices -/
theorem no_own {w : World} {base : Nat} {v : Value} {n : Nat} {hs : List Value} (h1 : w.ownsRow base 31 1 v n hs) {b2 m c : Nat} {q : Option Addr} {ys : List Value} (h2 : w.ownsRow b2 5 1 (.slice q m c) m ys) : ∀ a, q = some a → ¬ v.ownBlock = some a.block := fun a ha hv => by
  subst ha
  rcases h1.2 with ⟨rfl, _⟩ | ⟨g, cap, cur, rfl, _, hg, _⟩
  · cases hv
  · rcases h2.2 with ⟨hx, _⟩ | ⟨g2, cap2, cur2, hx, _, hg2, _⟩
    · cases hx
    · cases hx
      simp only [Value.ownBlock, Option.some.injEq] at hv
      rw [← hv, hg] at hg2
      injection hg2 with e1
      injection e1 with _ e2
      revert e2
      decide
/-- one more: behind an append onto it -/
theorem Ls.push {w w0 w1 : World} {base : Nat} {v : Value} {ls : List (List UInt8)} {hs : List Value} {p' : Option Addr} {c' : Nat} {q : Option Addr} {k : Nat} {x : List UInt8}
    (h1 : w.ownsRow base 31 1 v ls.length hs) (h2 : ∀ j (h : j < ls.length), ∃ q k, hs[j]? = some (.slice q ls[j].length k) ∧ Bs w q ls[j].length k ls[j] ∧ (∀ a, q = some a → 0 < ls[j].length → ¬ v.ownBlock = some a.block))
    (hb : Below w.heap.size w w0) (hx : Bs w q x.length k x) (hq : ∀ a, q = some a → 0 < x.length → ¬ v.ownBlock = some a.block)
    (ho : w1.ownsRow base 31 1 (.slice p' (ls.length + 1) c') (ls.length + 1) (hs ++ [.slice q x.length k])) (hg : w0.grownBy w1 v.ownBlock)
    (hn : ∀ i, (Value.slice p' (ls.length + 1) c').ownBlock = some i → v.ownBlock = some i ∨ i = w0.heap.size) : Ls w1 base (.slice p' (ls.length + 1) c') (ls ++ [x]) := by
  have hl : hs.length = ls.length := by have := h1.1; simpa using this
  have ht : Turns (fun i => v.ownBlock = some i) w0 w1 := Turns.grown hg (fun k hk => hk)
  have key : ∀ (q : Option Addr) (k : Nat) (y : List UInt8), Bs w q y.length k y → (∀ a, q = some a → 0 < y.length → ¬ v.ownBlock = some a.block) → Bs w1 q y.length k y ∧ (∀ a, q = some a → 0 < y.length → ¬ (Value.slice p' (ls.length + 1) c').ownBlock = some a.block) := fun q k y hB hne => by
    by_cases hy : 0 < y.length
    · obtain ⟨b, o, rfl⟩ := hB.addr hy (by omega)
      have hlt : b < w.heap.size := block_lt_of_cell (Bs.byte hB (j := 0) hy)
      refine ⟨(hB.below hb).touch ht (fun a ha _ => hne a ha hy), fun a ha hy he => ?_⟩
      rcases hn _ he with h | h
      · exact hne a ha hy h
      · obtain rfl := Option.some.inj ha
        have := hb.size
        simp only at h
        omega
    · have hy0 : y = [] := List.length_eq_zero_iff.1 (by omega)
      subst hy0
      exact ⟨⟨rfl, hB.le, hB.max, hB.nil0, fun a ha j u hu => by simp [bytesV] at hu⟩, fun a ha h => by simp at h⟩
  refine ⟨_, by rw [List.length_append]; exact ho, fun j hj => ?_⟩
  rw [List.length_append, List.length_singleton] at hj
  by_cases hj2 : j < ls.length
  · obtain ⟨q1, k1, e1, e2, e3⟩ := h2 j hj2
    have := key q1 k1 _ e2 e3
    refine ⟨q1, k1, ?_, ?_, ?_⟩
    · rw [List.getElem?_append_left (by omega), List.getElem_append_left hj2]; exact e1
    · rw [List.getElem_append_left hj2]; exact this.1
    · rw [List.getElem_append_left hj2]; exact this.2
  · obtain rfl : j = ls.length := by omega
    have := key q k x hx hq
    refine ⟨q, k, ?_, ?_, ?_⟩
    · rw [List.getElem?_append_right (by omega), hl, Nat.sub_self]
      simp
    · simpa using this.1
    · simpa using this.2
/-- the header that is appended, as a slice of one -/
theorem hdr_sl (w : World) (v : Value) (t : TypeId) (b : Nat) (hb : b = w.heap.size) : Sl (w.alloc (.cells #[v] t)) (some ⟨b, 0, none⟩) 1 1 1 [v] :=
  ⟨rfl, Nat.le_refl _, by omega, fun h => (by cases h), fun a ha j u hu => by
    obtain rfl := Option.some.inj ha
    rw [add_none, hb, cell_alloc_new]
    cases j with
    | zero => simpa using hu
    | succ j => simp at hu⟩
/-- the same, where each element is the call's own, too -/
structure LsO (w : World) (base : Nat) (v : Value) (ls : List (List UInt8)) : Prop where
  all : ∃ hs : List Value, w.ownsRow base 31 1 v ls.length hs ∧ ∀ j (h : j < ls.length), ∃ q k, hs[j]? = some (.slice q ls[j].length k) ∧ w.ownsRow base 5 1 (.slice q ls[j].length k) ls[j].length (bytesV ls[j])
theorem LsO.nil (w : World) (base : Nat) : LsO w base (.slice none 0 0) [] := ⟨[], World.ownsRow_nil _ _ _ _, fun j h => by simp at h⟩
theorem LsO.ls {w : World} {base : Nat} {v : Value} {ls : List (List UInt8)} (h : LsO w base v ls) : Ls w base v ls := by
  obtain ⟨hs, h1, h2⟩ := h.all
  exact ⟨hs, h1, fun j hj => by
    obtain ⟨q, k, a, b⟩ := h2 j hj
    exact ⟨q, k, a, own_bs b, fun ad ha _ => no_own h1 b ad ha⟩⟩
theorem LsO.below {w w' : World} {base : Nat} {v : Value} {ls : List (List UInt8)} (h : LsO w base v ls) (hb : Below w.heap.size w w') : LsO w' base v ls := by
  obtain ⟨hs, h1, h2⟩ := h.all
  exact ⟨hs, own_touch h1 (Turns.of_below (S := fun _ => False) hb) (fun _ _ h => h), fun j hj => by
    obtain ⟨q, k, a, b⟩ := h2 j hj
    exact ⟨q, k, a, own_touch b (Turns.of_below (S := fun _ => False) hb) (fun _ _ h => h)⟩⟩
theorem LsO.push {w w1 : World} {base : Nat} {v v' : Value} {ls : List (List UInt8)} {hs : List Value} {q : Option Addr} {k : Nat} {x : List UInt8} {tmp : Obj}
    (h1 : w.ownsRow base 31 1 v ls.length hs) (h2 : ∀ j (h : j < ls.length), ∃ q k, hs[j]? = some (.slice q ls[j].length k) ∧ w.ownsRow base 5 1 (.slice q ls[j].length k) ls[j].length (bytesV ls[j]))
    (hx : w.ownsRow base 5 1 (.slice q x.length k) x.length (bytesV x))
    (ho : w1.ownsRow base 31 1 v' (ls.length + 1) (hs ++ [.slice q x.length k])) (hg : (w.alloc tmp).grownBy w1 v.ownBlock) : LsO w1 base v' (ls ++ [x]) := by
  have hl : hs.length = ls.length := by have := h1.1; simpa using this
  have ht : Turns (fun i => v.ownBlock = some i) w w1 := (Turns.of_below (Below.allocs w tmp)).trans (Turns.grown hg (fun k hk => hk)) (fun _ _ h => h)
  have key : ∀ (q : Option Addr) (k : Nat) (y : List UInt8), w.ownsRow base 5 1 (.slice q y.length k) y.length (bytesV y) → w1.ownsRow base 5 1 (.slice q y.length k) y.length (bytesV y) := fun q k y hy =>
    own_touch hy ht (fun i hi he => by
      cases q with
      | none => simp [Value.ownBlock] at hi
      | some a => simp only [Value.ownBlock, Option.some.injEq] at hi; exact no_own h1 hy a rfl (by rw [hi]; exact he))
  refine ⟨_, by rw [List.length_append]; exact ho, fun j hj => ?_⟩
  rw [List.length_append, List.length_singleton] at hj
  by_cases hj2 : j < ls.length
  · obtain ⟨q1, k1, e1, e2⟩ := h2 j hj2
    refine ⟨q1, k1, ?_, ?_⟩
    · rw [List.getElem?_append_left (by omega), List.getElem_append_left hj2]; exact e1
    · rw [List.getElem_append_left hj2]; exact key q1 k1 _ e2
  · obtain rfl : j = ls.length := by omega
    refine ⟨q, k, ?_, ?_⟩
    · rw [List.getElem?_append_right (by omega), hl, Nat.sub_self]
      simp
    · simpa using key q k x hx
theorem LsO.set {w : World} {base : Nat} {v : Value} {ls : List (List UInt8)} {B : Nat} {t : TypeId} {u : Value} (h : LsO w base v ls) (hb : w.heap[B]? = some (.cells #[u] t (0, 0))) (h1 : t ≠ 31) (h2 : t ≠ 5) (u' : Value) : LsO (w.setCell ⟨B, 0, none⟩ u') base v ls := by
  have ht : Turns (fun i => i = B) w (w.setCell ⟨B, 0, none⟩ u') := (Turns.refl (fun i => i = B) w).setCell (p := ⟨B, 0, none⟩) (fun _ => rfl) u'
  have ne : ∀ {n size e : Nat} {x : Value} {vs : List Value}, w.ownsRow base e size x n vs → t ≠ e → ∀ i, x.ownBlock = some i → ¬ i = B := fun {n size e x vs} ho hte i hi he => by
    subst he
    rcases ho.2 with ⟨rfl, _⟩ | ⟨g, cap, cur, rfl, _, hg, _⟩
    · cases hi
    · simp only [Value.ownBlock, Option.some.injEq] at hi
      rw [hi, hb] at hg
      injection hg with e1
      injection e1 with _ e2
      exact hte e2
  obtain ⟨hs, a, b⟩ := h.all
  exact ⟨hs, own_touch a ht (ne a h1), fun j hj => by
    obtain ⟨q, k, c, d⟩ := b j hj
    exact ⟨q, k, c, own_touch d ht (ne d h2)⟩⟩
/-- rows of unlike types lie apart -/
theorem own_apart {w : World} {b1 b2 e1 e2 s1 s2 n1 n2 : Nat} {v1 v2 : Value} {x1 x2 : List Value} (h1 : w.ownsRow b1 e1 s1 v1 n1 x1) (h2 : w.ownsRow b2 e2 s2 v2 n2 x2) (he : e1 ≠ e2) : ∀ k, v1.ownBlock = some k → ¬ v2.ownBlock = some k := fun k hk hk2 => by
  rcases h1.2 with ⟨rfl, _⟩ | ⟨g, cap, cur, rfl, _, hg, _⟩
  · cases hk
  · rcases h2.2 with ⟨rfl, _⟩ | ⟨g2, cap2, cur2, rfl, _, hg2, _⟩
    · cases hk2
    · simp only [Value.ownBlock, Option.some.injEq] at hk hk2
      rw [hk] at hg
      rw [hk2, hg] at hg2
      injection hg2 with a
      injection a with _ b
      exact he b
/-- the same, where the elements lay ahead (in w0) -/
structure LsA (w0 w : World) (base : Nat) (v : Value) (ls : List (List UInt8)) : Prop where
  all : ∃ hs : List Value, w.ownsRow base 31 1 v ls.length hs ∧ ∀ j (h : j < ls.length), ∃ q k, hs[j]? = some (.slice q ls[j].length k) ∧ Bs w0 q ls[j].length k ls[j]
theorem LsA.nil (w0 w : World) (base : Nat) : LsA w0 w base (.slice none 0 0) [] := ⟨[], World.ownsRow_nil _ _ _ _, fun j h => by simp at h⟩
theorem LsA.touch {S : Nat → Prop} {w0 w w' : World} {base : Nat} {v : Value} {ls : List (List UInt8)} (h : LsA w0 w base v ls) (ht : Turns S w w') (hv : ∀ k, v.ownBlock = some k → ¬ S k) : LsA w0 w' base v ls := by
  obtain ⟨hs, h1, h2⟩ := h.all
  exact ⟨hs, own_touch h1 ht hv, h2⟩
theorem LsA.below {w0 w w' : World} {base : Nat} {v : Value} {ls : List (List UInt8)} (h : LsA w0 w base v ls) (hb : Below w.heap.size w w') : LsA w0 w' base v ls := h.touch (Turns.of_below (S := fun _ => False) hb) (fun _ _ h => h)
theorem LsA.push {w0 w w1 : World} {base : Nat} {v v' : Value} {ls : List (List UInt8)} {hs : List Value} {q : Option Addr} {k : Nat} {x : List UInt8}
    (h1 : w.ownsRow base 31 1 v ls.length hs) (h2 : ∀ j (h : j < ls.length), ∃ q k, hs[j]? = some (.slice q ls[j].length k) ∧ Bs w0 q ls[j].length k ls[j]) (hx : Bs w0 q x.length k x)
    (ho : w1.ownsRow base 31 1 v' (ls.length + 1) (hs ++ [.slice q x.length k])) : LsA w0 w1 base v' (ls ++ [x]) := by
  have hl : hs.length = ls.length := by have := h1.1; simpa using this
  refine ⟨_, by rw [List.length_append]; exact ho, fun j hj => ?_⟩
  rw [List.length_append, List.length_singleton] at hj
  by_cases hj2 : j < ls.length
  · obtain ⟨q1, k1, e1, e2⟩ := h2 j hj2
    refine ⟨q1, k1, ?_, ?_⟩
    · rw [List.getElem?_append_left (by omega), List.getElem_append_left hj2]; exact e1
    · rw [List.getElem_append_left hj2]; exact e2
  · obtain rfl : j = ls.length := by omega
    refine ⟨q, k, ?_, ?_⟩
    · rw [List.getElem?_append_right (by omega), hl, Nat.sub_self]
      simp
    · simpa using hx
theorem LsA.sl {w0 w : World} {base : Nat} {v : Value} {ls : List (List UInt8)} (h : LsA w0 w base v ls) (hb : Below w0.heap.size w0 w) : ∃ p c, v = .slice p ls.length c ∧ Pts w p ls.length c ls := by
  obtain ⟨hs, h1, h2⟩ := h.all
  obtain ⟨p, c, rfl, hS⟩ := own_sl h1
  refine ⟨p, c, rfl, rfl, hS.le, hS.max, hS.nil0, fun a ha j hj => ?_⟩
  obtain ⟨q, k, e1, e2⟩ := h2 j hj
  exact ⟨q, _, k, hS.cell a ha j _ e1, e2.below hb⟩
end Go.Proofs.YtgmahahhkaofbaaDoor.Cut

namespace Go.Proofs.YtgmahahhkaofbaaDoor.Frm
open Go.RowKit Go.Mir Go.Mir.Parts Wr Cod Cut

theorem one_ok {l : List UInt8} (h : (one l).2.2 = 0) : 9 ≤ (one l).2.1 ∧ (one l).2.1 ≤ l.length ∧ (one l).2.1 = 8 + (one l).1.length ∧ frame (one l).1 = l.take (one l).2.1 ∧ 1 ≤ (one l).1.length ∧ (one l).1.length ≤ 65536 := by
  unfold one at h ⊢
  split at h
  · simp at h
  rename_i h1
  rw [if_neg h1]
  split at h
  · simp at h
  rename_i h2
  rw [if_neg h2]
  split at h
  · simp at h
  rename_i h3
  rw [if_neg h3]
  split at h
  · rename_i h4
    rw [if_pos h4]
    have hl : ((l.drop 8).take (Rdr.beN (l.take 4))).length = Rdr.beN (l.take 4) := by rw [List.length_take, List.length_drop]; omega
    refine ⟨by dsimp only; omega, by dsimp only; omega, by dsimp only; rw [hl], h4, by dsimp only; omega, by dsimp only; omega⟩
  · simp at h
theorem one_bad {l : List UInt8} (h : ¬ (one l).2.2 = 0) : (one l).1 = [] ∧ (one l).2.1 = 0 := by
  unfold one at h ⊢
  split
  · exact ⟨rfl, rfl⟩
  rename_i h1
  rw [if_neg h1] at h
  split
  · exact ⟨rfl, rfl⟩
  rename_i h2
  rw [if_neg h2] at h
  split
  · exact ⟨rfl, rfl⟩
  rename_i h3
  rw [if_neg h3] at h
  split
  · rename_i h4
    rw [if_pos h4] at h
    simp at h
  · exact ⟨rfl, rfl⟩
theorem one_err (l : List UInt8) : (one l).2.2 = 0 ∨ (one l).2.2 = 2 ∨ (one l).2.2 = 4 ∨ (one l).2.2 = 9 := by
  unfold one
  split
  · simp
  split
  · simp
  split
  · simp
  split <;> simp
def scan (l : List UInt8) : List (List UInt8) × Nat :=
  if _h : (one l).2.2 = 0 then ((one l).1 :: (scan (l.drop (one l).2.1)).1, (one l).2.1 + (scan (l.drop (one l).2.1)).2) else ([], 0)
termination_by l.length
decreasing_by all_goals (have := one_ok _h; rw [List.length_drop]; omega)
theorem scan_ok {l : List UInt8} (h : (one l).2.2 = 0) : scan l = ((one l).1 :: (scan (l.drop (one l).2.1)).1, (one l).2.1 + (scan (l.drop (one l).2.1)).2) := by rw [scan, dif_pos h]
theorem scan_no {l : List UInt8} (h : ¬ (one l).2.2 = 0) : scan l = ([], 0) := by rw [scan, dif_neg h]
/-- as far as one has come -/
def sumF (pre : List (List UInt8)) : Nat := (pre.map fun x => 8 + x.length).sum
theorem sumF_snoc (pre : List (List UInt8)) (x : List UInt8) : sumF (pre ++ [x]) = sumF pre + (8 + x.length) := by simp [sumF]
def At (l : List UInt8) (pre : List (List UInt8)) (at_ : Nat) : Prop := at_ ≤ l.length ∧ (9 * pre.length ≤ at_ ∧ at_ = sumF pre) ∧ scan l = (pre ++ (scan (l.drop at_)).1, at_ + (scan (l.drop at_)).2)
theorem At.zero (l : List UInt8) : At l [] 0 := ⟨by omega, ⟨by simp, rfl⟩, by simp⟩
theorem At.next {l : List UInt8} {pre : List (List UInt8)} {k : Nat} (h : At l pre k) (ho : (one (l.drop k)).2.2 = 0) : At l (pre ++ [(one (l.drop k)).1]) (k + (one (l.drop k)).2.1) := by
  obtain ⟨h1, ⟨h2, h2'⟩, h3⟩ := h
  obtain ⟨o1, o2, o3, _⟩ := one_ok ho
  rw [List.length_drop] at o2
  refine ⟨by omega, ⟨by rw [List.length_append, List.length_singleton]; omega, by rw [sumF_snoc, ← h2', o3]⟩, ?_⟩
  rw [h3, scan_ok ho, List.drop_drop]
  simp only [List.append_assoc, List.singleton_append, Prod.mk.injEq, true_and]
  omega
theorem At.end {l : List UInt8} {pre : List (List UInt8)} {k : Nat} (h : At l pre k) (ho : ¬ (one (l.drop k)).2.2 = 0) : scan l = (pre, k) := by
  rw [h.2.2, scan_no ho]; simp
theorem At.last {l : List UInt8} {pre : List (List UInt8)} {k k1 : Nat} (h : At l pre k) (ho : ¬ (one (l.drop k)).2.2 = 0) (h1 : At l pre k1) : scan l = (pre, k1) := by
  have he := h.end ho
  have h3 := h1.2.2
  rw [he] at h3
  by_cases hb : (one (l.drop k1)).2.2 = 0
  · rw [scan_ok hb] at h3
    have := congrArg List.length (congrArg Prod.fst h3)
    simp at this
  · exact h1.end hb
def RScanO (l : List UInt8) (w : World) (e : Ending) (w' : World) : Prop := ∃ v, e = .returned (.tuple #[v, .int .i64 ((scan l).2 : Int)]) ∧ LsO w' w.heap.size v (scan l).1 ∧ Below w.heap.size w w'
def RScanP (l : List UInt8) (w : World) (e : Ending) (w' : World) : Prop := ∃ v, e = .returned (.tuple #[v, .int .i64 ((scan l).2 : Int)]) ∧ Ls w' w.heap.size v (scan l).1 ∧ Below w.heap.size w w'
end Go.Proofs.YtgmahahhkaofbaaDoor.Frm

namespace Go.Mir
open Go.RowKit

theorem grown_of_below {A B : World} (h : Below A.heap.size A B) (row : Option Nat) : A.grownBy B row := ⟨h.os, h.tape, h.output, h.size, fun k hk _ => h.block k hk⟩
theorem ownFrom_grow {β : Type} {b : Nat} {I : β → World → Prop} (h : OwnFrom b I) {s : β} {A B : World} (hs : I s A) (hb : Below A.heap.size A B) : I s B :=
  h s A B none hs (grown_of_below hb none) (fun r e => by cases e)
/-- what an iterator keeps to -/
def SeqG {α : Type} (P : Program) (n : Nat) (gf : Nat) (lb : Array Value) (encs : α → Array Value) (T : Nat → Prop) (G : List α → α → World → Prop) (S Sp : List α → Prop) (w : World) : Prop :=
  ∀ (l : Nat) (J Jx : List α → World → Prop) (W : World), Below w.heap.size w W → (∀ s A B, J s A → Below A.heap.size A B → J s B) → (∀ s A B, Jx s A → Below A.heap.size A B → Jx s B) →
    (∀ pre x W1, J pre W1 → G pre x W1 → YieldAt Fence.wide (n - 1) P l (encs x) W1 fun e W' => (e = .returned (.bool true) ∧ J (pre ++ [x]) W' ∧ Turns T W1 W') ∨ (e = .returned (.bool false) ∧ Jx (pre ++ [x]) W')) →
    J [] W → CallsIn Fence.wide n P gf (#[.func (.yield l) #[] #[]] ++ lb) W fun e W' => (∃ v, e = .returned v) ∧ ((∃ xs, S xs ∧ J xs W') ∨ ∃ pre, Sp pre ∧ Jx pre W')
/-- how a round may be left -/
def roundEnd {α : Type} (B : Nat) (T : Nat → Prop) (I : List α → World → Prop) (Ix : Code → List α → World → Prop) (xs : List α) (W : World) : Exit → Act → World → Prop
  | .normal, _, W' => KeepsFrom B W W' ∧ Turns T W W' ∧ I xs W'
  | .ret, _, W' => KeepsFrom B W W' ∧ Ix .ret xs W'
  | .exit id, _, W' => KeepsFrom B W W' ∧ Ix (.exit id) xs W'
  | .goto t, _, W' => KeepsFrom B W W' ∧ Ix (.goto t) xs W'
  | .panic _, _, _ => False
  | .outgrown, _, _ => False
/-- what the loop has laid -/
structure LoopAt (b : Nat) (r : Loop) (W : World) : Prop where
  loop : W.heap[b + 1]? = some (.loop r)
  calls : W.heap[b]? = some (.deferred (some []))
theorem LoopAt.lt {b : Nat} {r : Loop} {W : World} (h : LoopAt b r W) : b + 1 < W.heap.size := (Array.getElem?_eq_some_iff.1 h.loop).1
theorem LoopAt.keep {b : Nat} {r : Loop} {W W' : World} (h : LoopAt b r W) (hk : KeepsFrom b W W') : LoopAt b r W' := ⟨hk.same _ _ (by omega) h.loop rfl, hk.same _ _ (Nat.le_refl _) h.calls rfl⟩
theorem LoopAt.set {b : Nat} {r : Loop} {W : World} (h : LoopAt b r W) (r' : Loop) : LoopAt b r' (W.putObj (b + 1) (.loop r')) := ⟨World.putObj_heap_same h.lt, (World.putObj_heap_other (by omega)).trans h.calls⟩
theorem LoopAt.below {b : Nat} {r : Loop} {W W' : World} (h : LoopAt b r W) (hb : Below W.heap.size W W') : LoopAt b r W' := ⟨Below.keepOld hb h.loop, Below.keepOld hb h.calls⟩
variable {P : Program}
theorem rangeG {α : Type} {g : Operand} {ps : Array Tmp} {assign body : Code} {Q : Exit → Act → World → Prop} {a : Act} {w w0 : World} {n : Nat} (_h1 : 1 ≤ n)
    {gf : Nat} {lb : Array Value} (hg : a.eval g = .func (.func gf) #[] lb) (eg : ∀ args w, (callFunc gf args).run P w = .ok (.enter gf args) w)
    {encs : α → Array Value} {T : Nat → Prop} {G : List α → α → World → Prop} {S Sp : List α → Prop} (hseq : SeqG P (n - 1) gf lb encs T G S Sp w0) (hT : ∀ k, w.heap.size ≤ k → T k) (hb0 : Below w0.heap.size w0 w) (hps : ∀ x, (encs x).size = ps.size)
    (hG : OwnFrom w.heap.size (fun (s : List α × α) W => G s.1 s.2 W)) (I : List α → World → Prop) (Ix : Code → List α → World → Prop) (hI : OwnFrom w.heap.size I) (hIx : ∀ c, OwnFrom w.heap.size (Ix c)) (h0 : I [] w) (a₁ : α → Act)
    (hassign : ∀ (l : Nat) (x : α) (W : World) (K : Act → World → Prop), K (a₁ x) W →
      assign.wpIn (Fence.wide.inRound l) (n - 1 - 1) P (Exit.then K (fun _ _ _ => False)) { tmps := (ps.zip (encs x)).foldl (fun t (p, v) => t.setIfInBounds p v) a.tmps, defers := [] } W)
    (hbody : ∀ (l : Nat) (pre : List α) (x : α) (W : World), I pre W → G pre x W → body.wpIn (Fence.wide.inRound l) (n - 1 - 1) P (roundEnd w.heap.size T I Ix (pre ++ [x]) W) (a₁ x) W)
    (hdone : ∀ (D : Nat) (xs : List α) (W : World), w.heap.size ≤ D → S xs → I xs W → W.heap[D]? = some (.deferred (some [])) → Q .normal { a with defers := { target := .collected D, args := #[] } :: a.defers } W)
    (hstop : ∀ (D : Nat) (c : Code) (pre : List α) (W : World), w.heap.size ≤ D → Sp pre → Ix c pre W → W.heap[D]? = some (.deferred (some [])) → c.wpIn Fence.wide n P Q { a with defers := { target := .collected D, args := #[] } :: a.defers } W) :
    (Code.rangeFunc g ps assign body).wpIn Fence.wide n P Q a w := by
  refine wpIn_rangeFunc fun fn hfn => ?_
  obtain ⟨b, hb⟩ : ∃ b, w.heap.size = b := ⟨_, rfl⟩
  let rec' : LoopState → Option Code → Loop := fun st pe => { state := st, pending := pe, fn, tmps := a.tmps, params := ps, assign, body, defers := b }
  obtain ⟨W1, hW1⟩ : ∃ W1, W1 = (w.alloc (.deferred (some []))).alloc (.loop (rec' .ready none)) := ⟨_, rfl⟩
  have hsz : W1.heap.size = b + 2 := by rw [hW1]; simp [hb]
  have hL1 : LoopAt b (rec' .ready none) W1 := by
    rw [hW1, ← hb]
    exact ⟨by have := World.alloc_heap_new (w.alloc (.deferred (some []))) (.loop (rec' .ready none)); rwa [World.size_alloc] at this, (Below.heap_alloc _ _ _ (by simp)).trans (World.alloc_heap_new w _)⟩
  have hww : Below w.heap.size w W1 := by rw [hW1]; exact ((Below.refl _ w).alloc (Nat.le_refl _) _).alloc (by simp) _
  rw [hb] at hI hIx hG hT hbody hdone hstop
  have turn : ∀ {s : List α} {W : World} {r : Loop} (r' : Loop), I s W → LoopAt b r W → I s (W.putObj (b + 1) (.loop r')) := fun r' hi hl => hI.putObj _ hi (by omega) hl.loop rfl
  have turnB : ∀ {W : World} {r : Loop} (r' : Loop), LoopAt b r W → Turns T W (W.putObj (b + 1) (.loop r')) := fun {W} {r} r' hl =>
    Turns.grown (grownBy_putObj' W (b + 1) _) (fun k e => by cases e; exact hT _ (by omega))
  refine ⟨b + 1, [{ target := .collected b, args := #[] }], W1, { target := .fn (.func gf) lb, args := #[.func (.yield (b + 1)) #[] #[]] }, W1, gf, #[.func (.yield (b + 1)) #[] #[]] ++ lb, W1, ?_, ?_, fun _ _ => trivial, ?_, fun h => by simp [Fence.wide] at h, ?_⟩
  · have := run_enterLoop_outer (P := P) (w := w) fn a.tmps ps assign body
    rw [hb] at this
    rw [hW1]
    exact this
  · simp only [resolve, hg]
    simp [go_sem]
  · simp [invoke, go_sem, eg]
  refine (hseq (b + 1) (fun pre W => I pre W ∧ LoopAt b (rec' .ready none) W) (fun pre W => ∃ c, Ix c pre W ∧ LoopAt b (rec' .done (some c)) W) W1
    (hb0.trans (hww.mono hb0.size)) (fun s A B hs hbl => ⟨ownFrom_grow hI hs.1 hbl, hs.2.below hbl⟩) (fun s A B ⟨c, hc, hl⟩ hbl => ⟨c, ownFrom_grow (hIx c) hc hbl, hl.below hbl⟩) ?_ ⟨ownFrom_grow hI h0 hww, hL1⟩).mono ?_
  · rintro pre x W ⟨hi, hl⟩ hx
    refine ⟨fn, _, assign, body, run_yield (P := P) (args := encs x) hl.loop (hps x), roundIn_of_wpIn hfn (hassign _ x W _ ⟨_, run_beginRound hl.loop rfl, ?_⟩)⟩
    have hx2 : G pre x (W.putObj (b + 1) (.loop { rec' .ready none with state := .busy })) := hG.putObj (s := (pre, x)) _ hx (by omega) hl.loop rfl
    refine wpIn_mono (hbody _ pre x _ (turn _ hi hl) hx2) ?_
    have hl2 := hl.set { rec' .ready none with state := .busy }
    have leave : ∀ (c : Code) (W3 : World), KeepsFrom b (W.putObj (b + 1) (.loop { rec' .ready none with state := .busy })) W3 → Ix c (pre ++ [x]) W3 →
        ∃ v w', (Instr.endRound (b + 1) (some c)).run P W3 = .ok v w' ∧ (fun (e : Ending) (W' : World) => (e = .returned (.bool true) ∧ (I (pre ++ [x]) W' ∧ LoopAt b (rec' .ready none) W') ∧ Turns T W W') ∨ (e = .returned (.bool false) ∧ ∃ c, Ix c (pre ++ [x]) W' ∧ LoopAt b (rec' .done (some c)) W')) (.returned v) w' := fun c W3 hk hc => by
      have hl3 := hl2.keep hk
      exact ⟨_, _, run_endRound (P := P) (some c) hl3.loop, .inr ⟨rfl, c, (hIx c).putObj _ hc (by omega) hl3.loop rfl, hl3.set _⟩⟩
    rintro e a3 W3 hp
    cases e with
    | normal =>
      have hl3 := hl2.keep hp.1
      exact ⟨_, _, run_endRound (P := P) none hl3.loop, .inl ⟨rfl, ⟨turn _ hp.2.2 hl3, hl3.set _⟩, ((turnB _ hl).trans hp.2.1 (fun _ _ h => h)).trans (turnB _ hl3) (fun _ _ h => h)⟩⟩
    | ret => exact leave .ret W3 hp.1 hp.2
    | exit id => exact leave (.exit id) W3 hp.1 hp.2
    | goto t => exact leave (.goto t) W3 hp.1 hp.2
    | panic ch => exact hp.elim
    | outgrown => exact hp.elim
  · rintro e W2 ⟨⟨v, rfl⟩, ⟨xs, hS, hi, hl⟩ | ⟨pre, hS, c, hi, hl⟩⟩
    · exact ⟨none, _, run_endLoop (P := P) hl.loop (by simp [rec']), hdone _ xs _ (Nat.le_refl _) hS (turn _ hi hl) (hl.set _).calls⟩
    · exact ⟨some c, _, run_endLoop (P := P) hl.loop (by simp [rec']), hstop _ c pre _ (Nat.le_refl _) hS ((hIx c).putObj _ hi (by omega) hl.loop rfl) (hl.set _).calls⟩
/-- the activation behind the assignment to the loop's variables -/
def setAll (a : Act) (l : List (Nat × Value)) : Act := { tmps := l.foldl (fun t p => t.setIfInBounds p.1 p.2) a.tmps, defers := [] }
theorem rangeS {α : Type} {g : Operand} {ps : Array Tmp} {assign body : Code} {Q : Exit → Act → World → Prop} {a : Act} {w w0 : World} {n : Nat} (h1 : 1 ≤ n)
    {gf : Nat} {lb : Array Value} (hg : a.eval g = .func (.func gf) #[] lb) (eg : ∀ args w, (callFunc gf args).run P w = .ok (.enter gf args) w)
    {encs : α → Array Value} {T : Nat → Prop} {G : List α → α → World → Prop} {S Sp : List α → Prop} (hseq : SeqG P (n - 1) gf lb encs T G S Sp w0) (hT : ∀ k, w.heap.size ≤ k → T k) (hb0 : Below w0.heap.size w0 w) (hps : ∀ x, (encs x).size = ps.size)
    (hG : OwnFrom w.heap.size (fun (s : List α × α) W => G s.1 s.2 W)) (I : List α → World → Prop) (Ix : Code → List α → World → Prop) (hI : OwnFrom w.heap.size I) (hIx : ∀ c, OwnFrom w.heap.size (Ix c)) (h0 : I [] w) (sets : α → List (Nat × Value))
    (hassign : ∀ (l : Nat) (x : α) (W : World) (K : Act → World → Prop), K (setAll a (sets x)) W →
      assign.wpIn (Fence.wide.inRound l) (n - 1 - 1) P (Exit.then K (fun _ _ _ => False)) { tmps := (ps.zip (encs x)).foldl (fun t (p, v) => t.setIfInBounds p v) a.tmps, defers := [] } W)
    (hbody : ∀ (l : Nat) (pre : List α) (x : α) (W : World), I pre W → G pre x W → body.wpIn (Fence.wide.inRound l) (n - 1 - 1) P (roundEnd w.heap.size T I Ix (pre ++ [x]) W) (setAll a (sets x)) W)
    (hdone : ∀ (D : Nat) (xs : List α) (W : World), w.heap.size ≤ D → S xs → I xs W → W.heap[D]? = some (.deferred (some [])) → Q .normal { a with defers := { target := .collected D, args := #[] } :: a.defers } W)
    (hstop : ∀ (D : Nat) (c : Code) (pre : List α) (W : World), w.heap.size ≤ D → Sp pre → Ix c pre W → W.heap[D]? = some (.deferred (some [])) → c.wpIn Fence.wide n P Q { a with defers := { target := .collected D, args := #[] } :: a.defers } W) :
    (Code.rangeFunc g ps assign body).wpIn Fence.wide n P Q a w :=
  rangeG h1 hg eg hseq hT hb0 hps hG I Ix hI hIx h0 (fun x => setAll a (sets x)) hassign hbody hdone hstop
end Go.Mir

namespace Go.Proofs.YtgmahahhkaofbaaDoor.Frm
open Go.RowKit Go.Mir Go.Mir.Parts Go.Shelf Wr Cod Cut Rdr
attribute [local go_sem] Oper.semAt_some

structure FX where
  at_ : Nat
  p : Option Addr
  c : Nat
  body : List UInt8
def FX.enc (x : FX) : Array Value := #[.int .i64 (x.at_ : Int), .slice x.p x.body.length x.c]
def bodies (xs : List FX) : List (List UInt8) := xs.map (·.body)
theorem bodies_snoc (xs : List FX) (x : FX) : bodies (xs ++ [x]) = bodies xs ++ [x.body] := by simp [bodies]
def FG (l : List UInt8) (n₀ : Nat) (pre : List FX) (x : FX) (W : World) : Prop := (At l (bodies pre) x.at_ ∧ (one (l.drop x.at_)).2.2 = 0 ∧ x.body = (one (l.drop x.at_)).1) ∧ W.ownsRow n₀ 5 1 (.slice x.p x.body.length x.c) x.body.length (bytesV x.body)
theorem own_own {β : Type} (n₀ e size : Nat) (v : β → Value) (k : β → Nat) (f : β → List Value) : Own (fun s W => W.ownsRow n₀ e size (v s) (k s) (f s)) := by
  rintro s X Y row hr hg hrow
  refine hr.kept hg ?_
  rcases hr.2 with ⟨h0, _⟩ | ⟨g, cap, cur, hv, _, hgb, _⟩
  · exact .inl (by rw [h0]; rfl)
  · refine .inr fun e' => ?_
    rw [hv] at e'
    obtain ⟨o, ho, hc⟩ := hrow g (by simpa [Value.ownBlock] using e'.symm)
    rw [hgb] at ho; cases ho; cases hc
theorem fg_own (l : List UInt8) (n₀ B : Nat) : OwnFrom B (fun (s : List FX × FX) W => FG l n₀ s.1 s.2 W) :=
  fun s A C row hs hg hr => ⟨hs.1, (own_own (β := List FX × FX) n₀ 5 1 (fun s => .slice s.2.p s.2.body.length s.2.c) (fun s => s.2.body.length) (fun s => bytesV s.2.body)) s A C row hs.2 hg (fun r e => (hr r e).2)⟩
def FT (n₀ Bn : Nat) (k : Nat) : Prop := n₀ ≤ k ∧ ¬ k = Bn
end Go.Proofs.YtgmahahhkaofbaaDoor.Frm

namespace Go.Proofs.YtgmahahhkaofbaaDoor.Frm
open Go.RowKit Go.Mir Go.Mir.Parts Go.Shelf Wr Cod Cut Rdr
attribute [local go_sem] Oper.semAt_some

theorem sl_kept {w w' : World} {p : Option Addr} {n c size : Nat} {vs : List Value} (h : Sl w p n c size vs) {row : Option Nat} (hg : w.grownBy w' row) (hr : ∀ r, row = some r → ∃ o : Obj, w.heap[r]? = some o ∧ o.isCells = false) : Sl w' p n c size vs :=
  ⟨h.len, h.le, h.max, h.nil0, fun a ha j u hu => cell_kept (h.cell a ha j u hu) hg hr⟩
theorem own_kept {w w' : World} {base e size n : Nat} {v : Value} {vs : List Value} (h : w.ownsRow base e size v n vs) {row : Option Nat} (hg : w.grownBy w' row) (hr : ∀ r, row = some r → ∃ o : Obj, w.heap[r]? = some o ∧ o.isCells = false) : w'.ownsRow base e size v n vs :=
  (own_own (β := Unit) base e size (fun _ => v) (fun _ => n) (fun _ => vs)) () _ _ row h hg hr
theorem ls_kept {w w' : World} {base : Nat} {v : Value} {ls : List (List UInt8)} (h : LsO w base v ls) {row : Option Nat} (hg : w.grownBy w' row) (hr : ∀ r, row = some r → ∃ o : Obj, w.heap[r]? = some o ∧ o.isCells = false) : LsO w' base v ls := by
  obtain ⟨hs, h1, h2⟩ := h.all
  refine ⟨hs, own_kept h1 hg hr, fun j hj => ?_⟩
  obtain ⟨q, k, a, b⟩ := h2 j hj
  exact ⟨q, k, a, own_kept b hg hr⟩
theorem boxed_kept {w w' : World} {B : Nat} {t : TypeId} {v : Value} (h : Boxed w B t v) {row : Option Nat} (hg : w.grownBy w' row) (hr : ∀ r, row = some r → ∃ o : Obj, w.heap[r]? = some o ∧ o.isCells = false) : Boxed w' B t v :=
  h.kept hg (fun e => by
    obtain ⟨o, ho, hc⟩ := hr B e.symm
    rw [show w.heap[B]? = _ from h] at ho; cases ho; cases hc)
structure SI (w : World) (l : List UInt8) (pre : List FX) (W : World) : Prop where
  out : ∃ v, Boxed W w.heap.size 22 v ∧ LsO W (w.heap.size + 3) v (bodies pre)
  stop : ∃ k : Nat, Boxed W (w.heap.size + 1) 3 (.int .i64 (k : Int)) ∧ At l (bodies pre) k
  low : Below w.heap.size w W
  big : w.heap.size + 3 ≤ W.heap.size
theorem si_own (w : World) (l : List UInt8) (B : Nat) (hB : w.heap.size ≤ B) : OwnFrom B (SI w l) := fun s A C row hs hg hr => by
  have hr' : ∀ r, row = some r → ∃ o : Obj, A.heap[r]? = some o ∧ o.isCells = false := fun r e => (hr r e).2
  obtain ⟨⟨v, b1, l1⟩, ⟨k, b2, a2⟩, lo, bg⟩ := hs
  exact ⟨⟨v, boxed_kept b1 hg hr', ls_kept l1 hg hr'⟩, ⟨k, boxed_kept b2 hg hr', a2⟩, lo.grown hg lo.size (fun k e => by have := (hr k e).1; omega), Nat.le_trans bg hg.size⟩
def ScanO (l : List UInt8) (w : World) (e : Ending) (w' : World) : Prop := ∃ v, e = .returned (.tuple #[v, .int .i64 ((scan l).2 : Int)]) ∧ LsO w' w.heap.size v (scan l).1 ∧ Below w.heap.size w w'
theorem LsO.low {w : World} {base base' : Nat} {v : Value} {ls : List (List UInt8)} (h : LsO w base v ls) (hb : base' ≤ base) : LsO w base' v ls := by
  obtain ⟨hs, h1, h2⟩ := h.all
  exact ⟨hs, own_base h1 (fun k hk => by have := (h1.lt k hk).1; omega), fun j hj => by
    obtain ⟨q, k, a, b⟩ := h2 j hj
    exact ⟨q, k, a, own_base b (fun i hi => by have := (b.lt i hi).1; omega)⟩⟩
def ScanP (l : List UInt8) (w : World) (e : Ending) (w' : World) : Prop := ∃ v, e = .returned (.tuple #[v, .int .i64 ((scan l).2 : Int)]) ∧ Ls w' w.heap.size v (scan l).1 ∧ Below w.heap.size w w'
end Go.Proofs.YtgmahahhkaofbaaDoor.Frm

namespace Go.Proofs.YtgmahahhkaofbaaDoor.Frm
open Go.RowKit Go.Mir Go.Mir.Parts Wr Cod Cut Rdr

theorem bs_block {w : World} {p : Option Addr} {n c : Nat} {l : List UInt8} (h : Bs w p n c l) : 0 < n → ∀ a, p = some a → a.block < w.heap.size := fun h0 a ha => by
  obtain ⟨b, o, rfl⟩ := h.addr h0 (by omega)
  obtain rfl := Option.some.inj ha
  exact block_lt_of_cell (Bs.byte h (j := 0) (by have := h.length; omega))
end Go.Proofs.YtgmahahhkaofbaaDoor.Frm

namespace Go.Proofs.YtgmahahhkaofbaaDoor.CrcW
open Go.RowKit Go.Mir

theorem infoB : (Tryd.prog.info? 5).map (fun i => (i.zero, i.size, i.bytes)) = some (some (.int .u8 0), 1, 1) := by kernel_rfl

theorem bit_int (x : BitVec 32) (k : Nat) : (((x.toNat : Int) / 2 ^ k).tmod 2 == 1) = x.getLsbD k := by
  have e : ((x.toNat : Int) / 2 ^ k) = ((x.toNat / 2 ^ k : Nat) : Int) := by
    rw [Int.natCast_ediv, Int.natCast_pow]; rfl
  rw [e, Int.tmod_eq_emod_of_nonneg (Int.natCast_nonneg _)]
  rw [BitVec.getLsbD, Nat.testBit_eq_decide_div_mod_eq]
  by_cases h : x.toNat / 2 ^ k % 2 = 1
  · rw [h, beq_iff_eq.2 (show (((x.toNat / 2 ^ k : Nat) : Int) % 2) = 1 by omega)]; rfl
  · rw [decide_eq_false h, beq_eq_false_iff_ne]; omega

def flipped (y : UInt8) (r : Nat) : UInt8 := UInt8.ofNat (y.toNat ^^^ 2 ^ r)
theorem flipped_toNat (y : UInt8) (r : Nat) (hr : r < 8) : (flipped y r).toNat = y.toNat ^^^ 2 ^ r := by
  have h1 : (2 : Nat) ^ r < 2 ^ 8 := Nat.pow_lt_pow_right (by omega) hr
  have h2 : y.toNat ^^^ 2 ^ r < 2 ^ 8 := Nat.xor_lt_two_pow y.toNat_lt h1
  rw [flipped, UInt8.toNat_ofNat']
  exact Nat.mod_eq_of_lt h2
theorem flip_int (y : UInt8) (r : Nat) (hr : r < 8) : bits BinOp.xor IntKind.u8 (y.toNat : Int) (2 ^ r % 256) = ((flipped y r).toNat : Int) := by
  have h1 : (2 : Nat) ^ r < 2 ^ 8 := Nat.pow_lt_pow_right (by omega) hr
  have e : ((2 : Int) ^ r % 256) = ((2 ^ r : Nat) : Int) := by
    rw [Int.natCast_pow]
    have h3 : ((2 ^ r : Nat) : Int) = (2 : Int) ^ r := Int.natCast_pow 2 r
    rw [show ((2 : Nat) : Int) = 2 from rfl, ← h3]
    exact Int.emod_eq_of_lt (Int.natCast_nonneg _) (by omega)
  rw [e, u8_xor_nat _ _ y.toNat_lt (by omega), flipped_toNat y r hr]
theorem bits_set (m : List UInt8) (t : Nat) (ht : t / 8 < m.length) (j : Nat) : Crc.bitAt (m.set (t / 8) (flipped m[t / 8] (t % 8))) j = (Crc.bitAt m j ^^ decide (j = t)) := by
  unfold Crc.bitAt
  by_cases h : j / 8 = t / 8
  · have e1 : (m.set (t / 8) (flipped m[t / 8] (t % 8))).getD (j / 8) 0 = flipped m[t / 8] (t % 8) := by
      rw [h]; simp [ht]
    have e2 : m.getD (j / 8) 0 = m[t / 8] := by rw [h]; simp [ht]
    rw [e1, e2, flipped_toNat _ _ (by omega), Nat.testBit_xor, Nat.testBit_two_pow]
    congr 1
    have : (t % 8 = j % 8) ↔ (j = t) := by omega
    simp [this]
  · have e1 : (m.set (t / 8) (flipped m[t / 8] (t % 8))).getD (j / 8) 0 = m.getD (j / 8) 0 := by
      simp [Ne.symm h]
    rw [e1, decide_eq_false (fun e => h (by rw [e]))]
    simp
theorem bytesV_set (m : List UInt8) (j : Nat) (y : UInt8) : bytesV (m.set j y) = (bytesV m).set j (.int .u8 (y.toNat : Int)) := by simp [bytesV, List.map_set]

end Go.Proofs.YtgmahahhkaofbaaDoor.CrcW

namespace Go.Proofs.YtgmahahhkaofbaaDoor.Frm
open Go.RowKit Go.Mir Go.Mir.Parts Wr Cod Cut Rdr

theorem frame_length (l : List UInt8) : (frame l).length = 8 + l.length := by unfold frame; simp only [List.length_append, be_length]
theorem frame_four (l : List UInt8) (r : List UInt8) : (frame l ++ r).take 4 = be l.length 4 := by
  unfold frame
  rw [List.append_assoc, List.append_assoc, List.take_append_of_le_length (by rw [be_length]; omega), List.take_of_length_le (by rw [be_length]; omega)]
theorem frame_body (l r : List UInt8) : ((frame l ++ r).drop 8).take l.length = l := by
  unfold frame
  rw [List.append_assoc, List.drop_append_of_le_length (by simp [be_length]), List.drop_of_length_le (by simp [be_length]), List.nil_append, List.take_append_of_le_length (by omega), List.take_of_length_le (by omega)]
theorem frame_take (l r : List UInt8) : (frame l ++ r).take (8 + l.length) = frame l := by
  rw [← frame_length, List.take_append_of_le_length (Nat.le_refl _), List.take_of_length_le (Nat.le_refl _)]
/-- there and back, whatever is behind -/
theorem one_frame (l r : List UInt8) (h1 : 1 ≤ l.length) (h2 : l.length ≤ 65536) : one (frame l ++ r) = (l, 8 + l.length, 0) := by
  have hv : beN ((frame l ++ r).take 4) = l.length := by rw [frame_four, beN_be _ _ (by omega) (by omega)]
  have hl : (frame l ++ r).length = 8 + l.length + r.length := by rw [List.length_append, frame_length]
  unfold one
  rw [hv, if_neg (by omega), if_neg (by omega), if_neg (by omega), frame_body, frame_take, if_pos rfl]
theorem one_frame0 (l : List UInt8) (h1 : 1 ≤ l.length) (h2 : l.length ≤ 65536) : one (frame l) = (l, 8 + l.length, 0) := by
  have := one_frame l [] h1 h2
  rwa [List.append_nil] at this
/-- torn -/
theorem one_torn (l : List UInt8) (h1 : 1 ≤ l.length) (h2 : l.length ≤ 65536) (k : Nat) (hk : k < 8 + l.length) : one ((frame l).take k) = ([], 0, 2) := by
  have hl : ((frame l).take k).length = k := by rw [List.length_take, frame_length]; omega
  unfold one
  by_cases h4 : k < 4
  · rw [if_pos (by omega)]
  · have hv : beN (((frame l).take k).take 4) = l.length := by
      rw [List.take_take, Nat.min_eq_left (by omega)]
      have := frame_four l []
      rw [List.append_nil] at this
      rw [this, beN_be _ _ (by omega) (by omega)]
    rw [hv, if_neg (by omega), if_neg (by omega), if_pos (by omega)]
/-- bytes of which one is another have another sum -/
theorem more_byte (s : BitVec 32) (a : List UInt8) (x y : UInt8) (b : List UInt8) (h : Crc.more s (a ++ x :: b) = Crc.more s (a ++ y :: b)) : x = y := by
  unfold Crc.more at h
  have h1 : Crc.run (s ^^^ Crc.ones) (a ++ x :: b) = Crc.run (s ^^^ Crc.ones) (a ++ y :: b) := by
    have := congrArg (· ^^^ Crc.ones) h
    simpa [Crc.xx] using this
  rw [Crc.run_append, Crc.run_append] at h1
  generalize Crc.run (s ^^^ Crc.ones) a = r at h1
  have e : ∀ z, Crc.run r (z :: b) = Crc.run (Crc.iter Crc.step 8 (r ^^^ Crc.byteW z)) b := fun z => rfl
  rw [e, e, Crc.iter_xor, Crc.iter_xor, Crc.run_xor, Crc.run_xor] at h1
  have h2 : Crc.iter Crc.step (8 * b.length) (Crc.iter Crc.step 8 (Crc.byteW x)) = Crc.iter Crc.step (8 * b.length) (Crc.iter Crc.step 8 (Crc.byteW y)) := by
    have := congrArg (Crc.run (Crc.iter Crc.step 8 r) b ^^^ ·) h1
    simpa [← BitVec.xor_assoc] using this
  rw [← Crc.iter_add, ← Crc.iter_add] at h2
  have h3 : Crc.iter Crc.step (8 * b.length + 8) (Crc.byteW x ^^^ Crc.byteW y) = 0#32 := by rw [Crc.iter_xor, h2]; simp
  have h4 := Crc.xor_eq_zero (Crc.iter_ne _ _ h3)
  have h5 := congrArg BitVec.toNat h4
  rw [Crc.byteW_toNat, Crc.byteW_toNat] at h5
  exact UInt8.toNat_inj.1 h5
theorem set_split (l : List UInt8) (j : Nat) (hj : j < l.length) (y : UInt8) : l.set j y = l.take j ++ y :: l.drop (j + 1) := List.set_eq_take_append_cons_drop .. |>.trans (by rw [if_pos hj])
/-- turned, behind the length -/
theorem one_odd (l : List UInt8) (h1 : 1 ≤ l.length) (h2 : l.length ≤ 65536) (j : Nat) (h4 : 4 ≤ j) (hj : j < 8 + l.length) (y : UInt8) (hy : ¬ (frame l)[j]'(by rw [frame_length]; exact hj) = y) : one ((frame l).set j y) = ([], 0, 9) := by
  have hfl := frame_length l
  have hl : ((frame l).set j y).length = 8 + l.length := by rw [List.length_set, hfl]
  have ht4 : ((frame l).set j y).take 4 = be l.length 4 := by
    rw [List.take_set_of_le (by omega)]
    have := frame_four l []
    rwa [List.append_nil] at this
  have hv : beN (((frame l).set j y).take 4) = l.length := by rw [ht4, beN_be _ _ (by omega) (by omega)]
  unfold one
  rw [hv, if_neg (by omega), if_neg (by omega), if_neg (by omega), if_neg]
  intro he
  rw [List.take_of_length_le (by omega : ((frame l).set j y).length ≤ 8 + l.length)] at he
  have hbl : (((frame l).set j y).drop 8).length = l.length := by rw [List.length_drop, hl]; omega
  rw [List.take_of_length_le (by omega)] at he
  have hd : (frame l).drop 8 = l := by
    have := frame_body l []
    rw [List.append_nil] at this
    rwa [List.take_of_length_le (by rw [List.length_drop, hfl]; omega)] at this
  by_cases h8 : j < 8
  · have hd2 : ((frame l).set j y).drop 8 = l := by rw [List.drop_set_of_lt (by omega), hd]
    rw [hd2] at he
    have := congrArg (·[j]?) he
    simp only [List.getElem?_set, hfl] at this
    rw [if_pos trivial, if_pos hj, List.getElem?_eq_getElem (by omega)] at this
    exact hy (Option.some.inj this)
  · have hd2 : ((frame l).set j y).drop 8 = l.set (j - 8) y := by rw [List.drop_set, if_neg (by omega), hd]
    rw [hd2] at he
    have hjl : j - 8 < l.length := by omega
    -- the sum that stands in both
    have hs : ((frame l).set j y).drop 4 = ((frame l).drop 4).set (j - 4) y := by rw [List.drop_set, if_neg (by omega)]
    have e4 : (frame (l.set (j - 8) y)).drop 4 = ((frame l).drop 4).set (j - 4) y := by rw [he, hs]
    have c1 : ∀ m : List UInt8, (frame m).drop 4 = be (Crc.more 0#32 ([be m.length 4, m].flatten)).toNat 4 ++ m := fun m => by
      unfold frame
      rw [List.append_assoc, List.drop_append_of_le_length (by rw [be_length]; omega), List.drop_of_length_le (by rw [be_length]; omega), List.nil_append]
    rw [c1, c1] at e4
    have e5 := congrArg (List.take 4) e4
    rw [List.take_set_of_le (by omega), List.take_append_of_le_length (by rw [be_length]; omega), List.take_append_of_le_length (by rw [be_length]; omega), List.take_of_length_le (by rw [be_length]; omega), List.take_of_length_le (by rw [be_length]; omega)] at e5
    have b1 := (Crc.more 0#32 ([be (l.set (j - 8) y).length 4, l.set (j - 8) y].flatten)).isLt
    have b2 := (Crc.more 0#32 ([be l.length 4, l].flatten)).isLt
    have e6 := congrArg beN e5
    rw [beN_be _ _ (by omega) (by omega), beN_be _ _ (by omega) (by omega)] at e6
    have e7 := BitVec.eq_of_toNat_eq e6
    simp only [List.flatten_cons, List.flatten_nil, List.append_nil, List.length_set] at e7
    rw [set_split l _ hjl, ← List.append_assoc] at e7
    have hl2 : l = l.take (j - 8) ++ l[j - 8] :: l.drop (j - 8 + 1) := by
      rw [List.getElem_cons_drop, List.take_append_drop]
    rw [show be l.length 4 ++ l = (be l.length 4 ++ l.take (j - 8)) ++ l[j - 8] :: l.drop (j - 8 + 1) by rw [List.append_assoc, ← hl2]] at e7
    have e8 := more_byte _ _ _ _ _ e7
    apply hy
    rw [e8]
    have : (frame l)[j]? = l[j - 8]? := by
      have := congrArg (·[j - 8]?) hd
      simp only [List.getElem?_drop] at this
      rwa [show 8 + (j - 8) = j by omega] at this
    rw [List.getElem?_eq_getElem (by omega), List.getElem?_eq_getElem hjl] at this
    exact Option.some.inj this
/-- one behind the other, and something that is none -/
theorem scan_frames (t : List UInt8) (ht : ¬ (one t).2.2 = 0) : ∀ (ls : List (List UInt8)), (∀ x ∈ ls, 1 ≤ x.length ∧ x.length ≤ 65536) → scan (ls.flatMap frame ++ t) = (ls, (ls.flatMap frame).length)
  | [], _ => by rw [List.flatMap_nil, List.nil_append, scan_no ht]; rfl
  | x :: r, h => by
    have hx := h x (by simp)
    have ih := scan_frames t ht r (fun y hy => h y (by simp [hy]))
    have ho := one_frame x (r.flatMap frame ++ t) hx.1 hx.2
    rw [← List.append_assoc] at ho
    rw [List.flatMap_cons, scan_ok (by rw [ho]), ho]
    dsimp only
    have hd : ((frame x ++ r.flatMap frame ++ t)).drop (8 + x.length) = r.flatMap frame ++ t := by
      rw [List.append_assoc, ← frame_length, List.drop_append_of_le_length (Nat.le_refl _), List.drop_of_length_le (Nat.le_refl _), List.nil_append]
    rw [hd, ih, List.length_append, frame_length]
theorem flipped_ne (y : UInt8) (r : Nat) (hr : r < 8) : ¬ y = CrcW.flipped y r := fun h => by
  have h1 := congrArg UInt8.toNat h
  rw [CrcW.flipped_toNat y r hr] at h1
  have h2 : y.toNat ^^^ (y.toNat ^^^ 2 ^ r) = 0 := by rw [← h1]; simp
  rw [← Nat.xor_assoc, Nat.xor_self, Nat.zero_xor] at h2
  have := Nat.pow_pos (n := r) (show 0 < 2 by omega)
  omega
theorem one_zero : one (List.replicate 20 0) = ([], 0, 4) := by
  unfold one
  rw [if_neg (by decide), if_pos (by decide)]
end Go.Proofs.YtgmahahhkaofbaaDoor.Frm

namespace Go.Proofs.YtgmahahhkaofbaaDoor.Rol
open Go.RowKit Go.Mir Dk
open Frm (frame scan one frame_length scan_frames scan_ok scan_no one_torn one_frame one_frame0)

/-! ### what is scanned -/
theorem scan_len : ∀ (n : Nat) (l : List UInt8), l.length ≤ n → (scan l).2 ≤ l.length ∧ l.take (scan l).2 = (scan l).1.flatMap frame ∧ ∀ x ∈ (scan l).1, 1 ≤ x.length ∧ x.length ≤ 65536
  | 0, l, hn => by
    have hl : l = [] := List.length_eq_zero_iff.1 (by omega)
    subst hl
    rw [scan_no (by decide)]
    exact ⟨Nat.le_refl _, rfl, fun x hx => (nomatch hx)⟩
  | n + 1, l, hn => by
    by_cases ho : (one l).2.2 = 0
    · obtain ⟨a1, a2, a3, a4, a5, a6⟩ := Frm.one_ok ho
      have hdl : (l.drop (one l).2.1).length = l.length - (one l).2.1 := List.length_drop
      obtain ⟨b1, b2, b3⟩ := scan_len n (l.drop (one l).2.1) (by omega)
      rw [scan_ok ho]
      dsimp only
      refine ⟨by omega, ?_, fun x hx => ?_⟩
      · rw [List.flatMap_cons, a4, ← b2, List.take_add]
      · rcases List.mem_cons.1 hx with hx | hx
        · subst hx; exact ⟨a5, a6⟩
        · exact b3 x hx
    · rw [scan_no ho]
      exact ⟨Nat.zero_le _, by rw [List.take_zero]; rfl, fun x hx => (nomatch hx)⟩
theorem scan_le (l : List UInt8) : (scan l).2 ≤ l.length := (scan_len _ l (Nat.le_refl _)).1
theorem one_nil : ¬ (one []).2.2 = 0 := by decide
theorem scan_all (ls : List (List UInt8)) (h : ∀ x ∈ ls, 1 ≤ x.length ∧ x.length ≤ 65536) : scan (ls.flatMap frame) = (ls, (ls.flatMap frame).length) := by
  have := scan_frames [] one_nil ls h
  rwa [List.append_nil] at this
theorem scan_take (l : List UInt8) : scan (l.take (scan l).2) = scan l := by
  obtain ⟨h1, h2, h3⟩ := scan_len _ l (Nat.le_refl _)
  rw [h2, scan_all _ h3, ← h2, List.length_take, Nat.min_eq_left h1]

/-! ### what is done -/
def fD (d : DD) (i : Nat) : FD := (d.fs[i]?).getD FD.none
theorem fD_eq {d : DD} {i : Nat} (h : i < d.fs.length) : d.fs[i] = fD d i := by
  unfold fD; rw [List.getElem?_eq_getElem h]; rfl
def appD (d : DD) (i : Nat) (b : List UInt8) : DD :=
  if b.length = 0 then d else if doE d i (fD d i) (.put (frame b)) = 0 then syncD (doD d i (fD d i) (.put (frame b))) i (fD (doD d i (fD d i) (.put (frame b))) i) else doD d i (fD d i) (.put (frame b))
def appE (d : DD) (i : Nat) (b : List UInt8) : Int :=
  if b.length = 0 then 1 else if doE d i (fD d i) (.put (frame b)) = 0 then syncE (doD d i (fD d i) (.put (frame b))) else doE d i (fD d i) (.put (frame b))
/-- a cut, and a sync -/
def clrD (d : DD) (i m : Nat) : DD :=
  if doE d i (fD d i) (.cut m) = 0 then syncD (doD d i (fD d i) (.cut m)) i (fD (doD d i (fD d i) (.cut m)) i) else doD d i (fD d i) (.cut m)
def clrE (d : DD) (i m : Nat) : Int :=
  if doE d i (fD d i) (.cut m) = 0 then syncE (doD d i (fD d i) (.cut m)) else doE d i (fD d i) (.cut m)
def endD (d : DD) (i : Nat) : DD := if unitsAll (fD d i).steps = 0 then d else syncD d i (fD d i)
def endE (d : DD) (i : Nat) : Int := if unitsAll (fD d i).steps = 0 then 0 else syncE d
def mendD (d : DD) (i : Nat) : DD :=
  if (scan (fD d i).now).2 < (fD d i).now.length then (if doE d i (fD d i) (.cut (scan (fD d i).now).2) = 0 then endD (doD d i (fD d i) (.cut (scan (fD d i).now).2)) i else doD d i (fD d i) (.cut (scan (fD d i).now).2)) else endD d i
def mendE (d : DD) (i : Nat) : Int :=
  if (scan (fD d i).now).2 < (fD d i).now.length then (if doE d i (fD d i) (.cut (scan (fD d i).now).2) = 0 then endE (doD d i (fD d i) (.cut (scan (fD d i).now).2)) i else doE d i (fD d i) (.cut (scan (fD d i).now).2)) else endE d i

/-! ### a disk of one file -/
def dI (room fuse : Nat) (down : Bool) (i : Nat) (f : FD) : DD := ⟨[FD.none, FD.none, FD.none].set i f, room, fuse, down⟩
def fS (x : List UInt8) : FD := ⟨x, x, [], x.length⟩
theorem new_dI (room i : Nat) : DD.new room = dI room 0 false i (fS []) := by
  unfold DD.new dI
  congr 1
  match i with
  | 0 => rfl
  | 1 => rfl
  | 2 => rfl
  | i + 3 => rfl
theorem fD_dI (room fuse : Nat) (down : Bool) (i : Nat) (hi : i < 3) (f : FD) : fD (dI room fuse down i f) i = f := by
  match i, hi with
  | 0, _ => rfl
  | 1, _ => rfl
  | 2, _ => rfl
theorem used_dI (room fuse : Nat) (down : Bool) (i : Nat) (hi : i < 3) (f : FD) : usedL (dI room fuse down i f).fs = f.need := by
  match i, hi with
  | 0, _ => rfl
  | 1, _ => show 0 + (f.need + 0) = _; omega
  | 2, _ => show 0 + (0 + (f.need + 0)) = _; omega
theorem set_dI (room fuse : Nat) (down : Bool) (i : Nat) (f g : FD) : setF (dI room fuse down i f) i g = dI room fuse down i g := by
  unfold setF dI
  simp only [List.set_set]
theorem burn_dI (room fuse : Nat) (down : Bool) (i : Nat) (f : FD) : (dI room fuse down i f).burn = if 0 < fuse then dI room (fuse - 1) (decide (fuse = 1)) i f else dI room fuse down i f := rfl
theorem none_settle (u : Nat) : FD.none.settle u = FD.none := rfl
theorem crash_dI (us : List Int) (room fuse : Nat) (down : Bool) (i : Nat) (hi : i < 3) (f : FD) : crashD us (dI room fuse down i f) = dI room 0 false i (f.settle (crU us i f)) := by
  match i, hi with
  | 0, _ => rfl
  | 1, _ => rfl
  | 2, _ => rfl
/-- a step that fits -/
theorem do_dI (room fuse : Nat) (i : Nat) (hi : i < 3) (f : FD) (s : St) (h : max f.need (s.size f.now.length) ≤ room) :
    (doE (dI room fuse false i f) i f s = 0 ∧ doD (dI room fuse false i f) i f s = dI room (fuse - 1) false i (f.take s) ∧ fuse ≠ 1) ∨
    (doE (dI room fuse false i f) i f s = 18 ∧ doD (dI room fuse false i f) i f s = dI room 0 true i (f.take s) ∧ fuse = 1) := by
  have hu := used_dI room fuse false i hi f
  have e0 : ¬ (dI room fuse false i f).down = true := Bool.false_ne_true
  have e1 : ¬ (dI room fuse false i f).room < f.need - f.need + max f.need (s.size f.now.length) := by show ¬ room < _; omega
  unfold doE doD
  rw [hu, if_neg e0, if_neg e1, if_neg e0, if_neg e1, set_dI, burn_dI]
  by_cases h1 : fuse = 1
  · subst h1
    exact .inr ⟨rfl, rfl, rfl⟩
  · refine .inl ?_
    by_cases h0 : 0 < fuse
    · rw [if_pos h0, decide_eq_false h1]
      exact ⟨rfl, rfl, h1⟩
    · rw [if_neg h0]
      obtain rfl : fuse = 0 := by omega
      exact ⟨rfl, rfl, h1⟩
theorem sync_dI (room fuse : Nat) (i : Nat) (f : FD) :
    (syncE (dI room fuse false i f) = 0 ∧ syncD (dI room fuse false i f) i f = dI room (fuse - 1) false i (f.settle (unitsAll f.steps)) ∧ fuse ≠ 1) ∨
    (syncE (dI room fuse false i f) = 18 ∧ syncD (dI room fuse false i f) i f = dI room 0 true i f ∧ fuse = 1) := by
  have e0 : ¬ (dI room fuse false i f).down = true := Bool.false_ne_true
  unfold syncE syncD
  rw [if_neg e0, if_neg e0, burn_dI]
  by_cases h1 : fuse = 1
  · subst h1
    exact .inr ⟨rfl, rfl, rfl⟩
  · refine .inl ?_
    by_cases h0 : 0 < fuse
    · rw [if_pos h0, decide_eq_false h1]
      exact ⟨rfl, by rw [if_neg (show ¬ (dI room (fuse - 1) false i f).down = true from Bool.false_ne_true)]; exact set_dI _ _ _ _ _ _, h1⟩
    · rw [if_neg h0]
      obtain rfl : fuse = 0 := by omega
      exact ⟨rfl, by rw [if_neg (show ¬ (dI room 0 false i f).down = true from Bool.false_ne_true)]; exact set_dI _ _ _ _ _ _, h1⟩
theorem settle_put (x y : List UInt8) (n : Nat) : (⟨x, x ++ y, [.put y], n⟩ : FD).settle (unitsAll [.put y]) = fS (x ++ y) := by
  have h : someU x [.put y] (unitsAll [.put y]) = x ++ y := by
    rw [someU_all _ _ _ (Nat.le_refl _)]
    show (St.put y).act x (St.put y).units = _
    rw [act_full]
  show (⟨someU x _ _, someU x _ _, [], (someU x _ _).length⟩ : FD) = _
  rw [h]; rfl
theorem settle_cut (x : List UInt8) (g n : Nat) : (⟨x, x.take g, [.cut g], n⟩ : FD).settle (unitsAll [.cut g]) = fS (x.take g) := by
  have h : someU x [.cut g] (unitsAll [.cut g]) = x.take g := by
    rw [someU_all _ _ _ (Nat.le_refl _)]
    show (St.cut g).act x (St.cut g).units = _
    rw [act_full]
  show (⟨someU x _ _, someU x _ _, [], (someU x _ _).length⟩ : FD) = _
  rw [h]; rfl
theorem take_put (x y : List UInt8) : (fS x).take (.put y) = ⟨x, x ++ y, [.put y], x.length + y.length⟩ := by
  show (⟨x, (St.put y).act x (St.put y).units, [.put y], max x.length (x.length + y.length)⟩ : FD) = _
  rw [act_full, Nat.max_eq_right (by omega)]
theorem take_cut (x : List UInt8) (g : Nat) (h : g ≤ x.length) : (fS x).take (.cut g) = ⟨x, x.take g, [.cut g], x.length⟩ := by
  show (⟨x, (St.cut g).act x (St.cut g).units, [.cut g], max x.length g⟩ : FD) = _
  rw [act_full, Nat.max_eq_left h]
/-- bytes put, and a sync -/
theorem put_sync (room fuse : Nat) (i : Nat) (hi : i < 3) (x y : List UInt8) (h : x.length + y.length ≤ room) :
    (doE (dI room fuse false i (fS x)) i (fS x) (.put y) = 0 ∧ doD (dI room fuse false i (fS x)) i (fS x) (.put y) = dI room (fuse - 1) false i ⟨x, x ++ y, [.put y], x.length + y.length⟩ ∧ fuse ≠ 1 ∧
      ((syncE (dI room (fuse - 1) false i ⟨x, x ++ y, [.put y], x.length + y.length⟩) = 0 ∧ syncD (dI room (fuse - 1) false i ⟨x, x ++ y, [.put y], x.length + y.length⟩) i ⟨x, x ++ y, [.put y], x.length + y.length⟩ = dI room (fuse - 1 - 1) false i (fS (x ++ y)) ∧ fuse ≠ 2) ∨
       (syncE (dI room (fuse - 1) false i ⟨x, x ++ y, [.put y], x.length + y.length⟩) = 18 ∧ syncD (dI room (fuse - 1) false i ⟨x, x ++ y, [.put y], x.length + y.length⟩) i ⟨x, x ++ y, [.put y], x.length + y.length⟩ = dI room 0 true i ⟨x, x ++ y, [.put y], x.length + y.length⟩ ∧ fuse = 2))) ∨
    (doE (dI room fuse false i (fS x)) i (fS x) (.put y) = 18 ∧ doD (dI room fuse false i (fS x)) i (fS x) (.put y) = dI room 0 true i ⟨x, x ++ y, [.put y], x.length + y.length⟩ ∧ fuse = 1) := by
  have h1 := do_dI room fuse i hi (fS x) (.put y) (by show max x.length (x.length + y.length) ≤ room; omega)
  rw [take_put] at h1
  rcases h1 with ⟨a, b, c⟩ | h1
  · refine .inl ⟨a, b, c, ?_⟩
    have h2 := sync_dI room (fuse - 1) i ⟨x, x ++ y, [.put y], x.length + y.length⟩
    rw [settle_put] at h2
    rcases h2 with ⟨a2, b2, c2⟩ | ⟨a2, b2, c2⟩
    · exact .inl ⟨a2, b2, by omega⟩
    · exact .inr ⟨a2, b2, by omega⟩
  · exact .inr h1
theorem app_up (room fuse : Nat) (i : Nat) (hi : i < 3) (x b : List UInt8) (hb : 1 ≤ b.length) (h : x.length + (8 + b.length) ≤ room) :
    (appE (dI room fuse false i (fS x)) i b = 0 ∧ appD (dI room fuse false i (fS x)) i b = dI room (fuse - 2) false i (fS (x ++ frame b)) ∧ fuse ≠ 1 ∧ fuse ≠ 2) ∨
    (appE (dI room fuse false i (fS x)) i b = 18 ∧ appD (dI room fuse false i (fS x)) i b = dI room 0 true i ⟨x, x ++ frame b, [.put (frame b)], x.length + (frame b).length⟩ ∧ (fuse = 1 ∨ fuse = 2)) := by
  have hp := put_sync room fuse i hi x (frame b) (by rw [frame_length]; omega)
  have hb0 : ¬ b.length = 0 := by omega
  unfold appE appD
  rw [if_neg hb0, if_neg hb0, fD_dI _ _ _ _ hi]
  rcases hp with ⟨a, c, hf, hs⟩ | ⟨a, c, hf⟩
  · rw [if_pos a, if_pos a, c, fD_dI _ _ _ _ hi]
    rcases hs with ⟨a2, c2, hf2⟩ | ⟨a2, c2, hf2⟩
    · exact .inl ⟨a2, by rw [c2]; rfl, hf, hf2⟩
    · exact .inr ⟨a2, c2, .inr hf2⟩
  · have h18 : ¬ doE (dI room fuse false i (fS x)) i (fS x) (.put (frame b)) = 0 := by rw [a]; decide
    rw [if_neg h18, if_neg h18]
    exact .inr ⟨a, c, .inl hf⟩
theorem do_dn {d : DD} {i : Nat} {f : FD} {s : St} (h : d.down = true) : doD d i f s = d ∧ doE d i f s = 18 := by
  unfold doD doE
  rw [if_pos h, if_pos h]; exact ⟨rfl, rfl⟩
theorem app_down {d : DD} (i : Nat) (b : List UInt8) (hb : 1 ≤ b.length) (hd : d.down = true) : appE d i b = 18 ∧ appD d i b = d := by
  obtain ⟨e1, e2⟩ := do_dn (i := i) (f := fD d i) (s := .put (frame b)) hd
  have hb0 : ¬ b.length = 0 := by omega
  have h18 : ¬ (18 : Int) = 0 := by decide
  unfold appE appD
  rw [if_neg hb0, if_neg hb0, e2, if_neg h18, if_neg h18]
  exact ⟨rfl, e1⟩
theorem app_nil (d : DD) (i : Nat) (b : List UInt8) (hb : b.length = 0) : appE d i b = 1 ∧ appD d i b = d := by
  unfold appE appD
  rw [if_pos hb, if_pos hb]
  exact ⟨rfl, rfl⟩
theorem mend_up (room fuse : Nat) (i : Nat) (hi : i < 3) (x : List UInt8) (h : x.length ≤ room) :
    (mendE (dI room fuse false i (fS x)) i = 0 ∧ ∃ f', mendD (dI room fuse false i (fS x)) i = dI room f' false i (fS (x.take (scan x).2)) ∧ (fuse = 0 → f' = 0)) ∨
    (mendE (dI room fuse false i (fS x)) i = 18 ∧ mendD (dI room fuse false i (fS x)) i = dI room 0 true i ⟨x, x.take (scan x).2, [.cut (scan x).2], x.length⟩ ∧ fuse ≠ 0) := by
  have hsl := scan_le x
  unfold mendE mendD
  rw [fD_dI _ _ _ _ hi]
  by_cases hg : (scan x).2 < x.length
  · rw [if_pos (show (scan (fS x).now).2 < (fS x).now.length from hg), if_pos (show (scan (fS x).now).2 < (fS x).now.length from hg)]
    have h1 := do_dI room fuse i hi (fS x) (.cut (scan x).2) (by show max x.length (scan x).2 ≤ room; omega)
    rw [take_cut x _ hsl] at h1
    rcases h1 with ⟨a, c, hf⟩ | ⟨a, c, hf⟩
    · rw [show (scan (fS x).now).2 = (scan x).2 from rfl, a, if_pos rfl, if_pos rfl, c]
      unfold endE endD
      rw [fD_dI _ _ _ _ hi]
      have hu1 : ¬ unitsAll [St.cut (scan x).2] = 0 := by show ¬ 1 + 0 = 0; omega
      rw [if_neg hu1, if_neg hu1]
      have h2 := sync_dI room (fuse - 1) i ⟨x, x.take (scan x).2, [.cut (scan x).2], x.length⟩
      rw [settle_cut] at h2
      rcases h2 with ⟨a2, b2, c2⟩ | ⟨a2, b2, c2⟩
      · exact .inl ⟨a2, _, b2, by omega⟩
      · exact .inr ⟨a2, b2, by omega⟩
    · rw [show (scan (fS x).now).2 = (scan x).2 from rfl, a, if_neg (by decide), if_neg (by decide)]
      exact .inr ⟨rfl, c, by omega⟩
  · rw [if_neg (show ¬ (scan (fS x).now).2 < (fS x).now.length from hg), if_neg (show ¬ (scan (fS x).now).2 < (fS x).now.length from hg)]
    unfold endE endD
    rw [fD_dI _ _ _ _ hi, if_pos (show unitsAll (fS x).steps = 0 from rfl), if_pos (show unitsAll (fS x).steps = 0 from rfl), List.take_of_length_le (by omega)]
    exact .inl ⟨rfl, _, rfl, fun h => h⟩
/-- what a crash leaves of what was put -/
theorem crash_up (us : List Int) (room fuse : Nat) (down : Bool) (i : Nat) (hi : i < 3) (x : List UInt8) : crashD us (dI room fuse down i (fS x)) = dI room 0 false i (fS x) := crash_dI us room fuse down i hi (fS x)
theorem crash_put (us : List Int) (room fuse : Nat) (down : Bool) (i : Nat) (hi : i < 3) (x y : List UInt8) (n : Nat) : ∃ u, u ≤ y.length ∧ crashD us (dI room fuse down i ⟨x, x ++ y, [.put y], n⟩) = dI room 0 false i (fS (x ++ y.take u)) := by
  have hu : crU us i ⟨x, x ++ y, [.put y], n⟩ ≤ y.length := crU_le (us := us) (k := i) (f := ⟨x, x ++ y, [.put y], n⟩)
  refine ⟨crU us i ⟨x, x ++ y, [.put y], n⟩, hu, ?_⟩
  rw [crash_dI us room fuse down i hi]
  generalize crU us i ⟨x, x ++ y, [.put y], n⟩ = u at *
  have h : someU x [.put y] u = x ++ y.take u := by
    show (St.put y).act x (min u y.length) = _
    rw [Nat.min_eq_left (by omega)]; rfl
  show dI room 0 false i ⟨someU x [.put y] u, someU x [.put y] u, [], (someU x [.put y] u).length⟩ = _
  rw [h]; rfl
theorem crash_cut (us : List Int) (room fuse : Nat) (down : Bool) (i : Nat) (hi : i < 3) (x : List UInt8) (g n : Nat) : ∃ y, (y = x ∨ y = x.take g) ∧ crashD us (dI room fuse down i ⟨x, x.take g, [.cut g], n⟩) = dI room 0 false i (fS y) := by
  rw [crash_dI us room fuse down i hi]
  generalize crU us i ⟨x, x.take g, [.cut g], n⟩ = u
  refine ⟨someU x [.cut g] u, ?_, rfl⟩
  show (if min u 1 = 0 then x else x.take g) = x ∨ (if min u 1 = 0 then x else x.take g) = x.take g
  split
  · exact .inl rfl
  · exact .inr rfl
/-- frames, and a beginning of one more -/
theorem scan_more (ls : List (List UInt8)) (h : ∀ x ∈ ls, 1 ≤ x.length ∧ x.length ≤ 65536) (b : List UInt8) (h1 : 1 ≤ b.length) (h2 : b.length ≤ 65536) (u : Nat) (hu : u ≤ (frame b).length) :
    (scan (ls.flatMap frame ++ (frame b).take u)).1 = ls ∨ (scan (ls.flatMap frame ++ (frame b).take u)).1 = ls ++ [b] := by
  by_cases hk : u < 8 + b.length
  · rw [scan_frames _ (by rw [one_torn b h1 h2 u hk]; decide) ls h]
    exact .inl rfl
  · rw [List.take_of_length_le (by rw [frame_length]; omega)]
    rw [show ls.flatMap frame ++ frame b = (ls ++ [b]).flatMap frame by simp]
    rw [scan_all _ (fun x hx => by
      rcases List.mem_append.1 hx with hx | hx
      · exact h x hx
      · rw [List.mem_singleton] at hx; subst hx; exact ⟨h1, h2⟩)]
    exact .inr rfl
end Go.Proofs.YtgmahahhkaofbaaDoor.Rol

namespace Go.Proofs.YtgmahahhkaofbaaDoor.Rol
open Go.RowKit Go.Mir Go.Mir.Parts Dk
open Cut (LsO LsA)

/-- blocks that may be a disk's -/
def DTy (base : Nat) (w : World) (k : Nat) : Prop := base ≤ k ∧ ∃ M t fr, w.heap[k]? = some (.cells M t fr) ∧ (t = 58 ∨ t = 76)
theorem dat_dty {w : World} {base db : Nat} {vs : List FV} {d : DD} (h : DAt w base db vs d) : ∀ k, DOwn db vs k → DTy base w k := by
  intro k hs
  refine ⟨(h.ownLt k hs).1, ?_⟩
  rcases hs with rfl | ⟨v, hv, hs⟩
  · exact ⟨_, _, _, h.row, .inl rfl⟩
  · obtain ⟨i, hi⟩ := List.mem_iff_getElem?.1 hv
    have hlt : i < d.fs.length := by rw [h.m3, ← h.n3]; exact (List.getElem?_eq_some_iff.1 hi).1
    obtain ⟨vals, ho, _⟩ := (h.each i v _ hi (List.getElem?_eq_getElem hlt)).steps
    rcases ho.2 with ⟨e, _⟩ | ⟨g, cap, cur, e, _, hg, _⟩
    · rw [e] at hs; simp [Value.ownBlock] at hs
    · rw [e] at hs
      simp [Value.ownBlock] at hs
      subst hs
      exact ⟨_, _, _, hg, .inr rfl⟩
/-- a disk of which no more is known than what it holds -/
def DX (base db : Nat) (d : DD) (w : World) : Prop := base ≤ w.heap.size ∧ ∃ vs, DAt w base db vs d
/-- what a call of a disk's has turned -/
def KT (base : Nat) (w w' : World) : Prop := Turns (DTy base w) w w'
theorem KT.refl (base : Nat) (w : World) : KT base w w := Turns.refl _ _
theorem KT.trans {base : Nat} {a b c : World} (h : KT base a b) (k : KT base b c) : KT base a c :=
  ⟨k.os.trans h.os, k.tape.trans h.tape, k.output.trans h.output, Nat.le_trans h.size k.size, fun i hi hS => by
    have e1 := h.block i hi hS
    have hS2 : ¬ DTy base b i := fun h' => hS (by
      obtain ⟨h1, M, t, fr, h2, h3⟩ := h'
      exact ⟨h1, M, t, fr, by rw [← e1]; exact h2, h3⟩)
    rw [k.block i (Nat.lt_of_lt_of_le hi h.size) hS2]; exact e1⟩
theorem KT.of_below {base : Nat} {a b : World} (h : Below a.heap.size a b) : KT base a b := Turns.of_below h
theorem KT.next {base : Nat} {a b c : World} (h : KT base a b) (k : Below b.heap.size b c) : KT base a c := h.trans (.of_below k)
theorem KT.below {base : Nat} {a b : World} (h : KT base a b) (hb : base ≤ a.heap.size) : Below base a b := Turns.below h hb (fun _ hi => hi.1)
theorem KT.row {base : Nat} {a b : World} (h : KT base a b) {k : Nat} {M : Array Value} {t : TypeId} {fr : Nat × Nat} (hr : a.heap[k]? = some (.cells M t fr)) (h1 : t ≠ 58) (h2 : t ≠ 76) : b.heap[k]? = some (.cells M t fr) :=
  Turns.keep h hr (fun ⟨_, M', t', fr', e, ht⟩ => by
    rw [hr] at e
    injection e with e1
    injection e1 with _ e2
    subst e2
    exact ht.elim h1 h2)
theorem KT.not {base : Nat} {a : World} {b e size n : Nat} {v : Value} {xs : List Value} (ho : a.ownsRow b e size v n xs) (h1 : e ≠ 58) (h2 : e ≠ 76) (k : Nat) (hk : v.ownBlock = some k) : ¬ DTy base a k := fun ⟨_, M', t', fr', e', ht⟩ => by
  rcases ho.2 with ⟨rfl, _⟩ | ⟨g, cap, cur, rfl, _, hg, _⟩
  · simp [Value.ownBlock] at hk
  · simp [Value.ownBlock] at hk
    subst hk
    rw [hg] at e'
    injection e' with e1
    injection e1 with _ e2
    subst e2
    exact ht.elim h1 h2
theorem KT.own {base : Nat} {a b : World} (h : KT base a b) {c e size n : Nat} {v : Value} {xs : List Value} (ho : a.ownsRow c e size v n xs) (h1 : e ≠ 58) (h2 : e ≠ 76) : b.ownsRow c e size v n xs :=
  own_touch ho h (fun k hk => KT.not ho h1 h2 k hk)
theorem KT.lsO {base : Nat} {a b : World} (h : KT base a b) {c : Nat} {v : Value} {ls : List (List UInt8)} (ho : LsO a c v ls) : LsO b c v ls := by
  obtain ⟨hs, h1, h2⟩ := ho.all
  exact ⟨hs, h.own h1 (by decide) (by decide), fun j hj => by
    obtain ⟨q, k, x, y⟩ := h2 j hj
    exact ⟨q, k, x, h.own y (by decide) (by decide)⟩⟩
theorem KT.lsA {base : Nat} {w0 a b : World} (h : KT base a b) {c : Nat} {v : Value} {ls : List (List UInt8)} (ho : LsA w0 a c v ls) : LsA w0 b c v ls := by
  obtain ⟨hs, h1, h2⟩ := ho.all
  exact ⟨hs, h.own h1 (by decide) (by decide), h2⟩
theorem KT.etype {base : Nat} {a b : World} (h : KT base a b) (hE : Rdr.EType a) (hb : 0 < base) : Rdr.EType b := by
  have hlt := hE.lt
  have h1 : a.heap[0]? = some (a.heap[0]'hlt) := Array.getElem?_eq_getElem hlt
  have h2 := Turns.keep h h1 (fun hs => by have := hs.1; omega)
  unfold Rdr.EType at hE ⊢
  rw [World.cell?] at hE ⊢
  rw [h1] at hE
  rw [h2]
  exact hE
theorem DX.below {base db : Nat} {d : DD} {w w' : World} (h : DX base db d w) (hb : Below w.heap.size w w') : DX base db d w' := by
  obtain ⟨h0, vs, h1⟩ := h
  exact ⟨Nat.le_trans h0 hb.size, vs, h1.below hb⟩
theorem DX.left {base db : Nat} {vs : List FV} {d d' : DD} {w w' : World} (h : DAt w base db vs d) (h0 : base ≤ w.heap.size) (hl : LeftD base db vs d' w w') : DX base db d' w' ∧ KT base w w' := by
  obtain ⟨vs', h1, h2, _⟩ := hl
  exact ⟨⟨Nat.le_trans h0 h2.size, vs', h1⟩, h2.imp (fun k _ hk => dat_dty h k hk)⟩
/-- what a call leaves, with its answer -/
def StP (base db : Nat) (x : Int) (d' : DD) (w : World) (e : Ending) (w' : World) : Prop := e = .returned (.int .i64 x) ∧ DX base db d' w' ∧ KT base w w'
theorem fD_lt {w : World} {base db : Nat} {vs : List FV} {d : DD} (h : DAt w base db vs d) {i : Nat} (hi : i < 3) : i < d.fs.length := by rw [h.m3]; exact hi
theorem xappend {base db : Nat} {d : DD} (w : World) (h : DX base db d w) (i : Nat) (hi : i < 3) (p : Option Addr) (n c : Nat) (b : List UInt8) (hb : Bs w p n c b) (hn : n ≤ 140737488355328) (hfew : (fD d i).steps.length + 1 ≤ 4398046511104) :
    Calls Tryd.prog 9 #[.pointer (some ⟨db, 0, none⟩), .int .i64 (i : Int), .slice p n c] w (StP base db (doE d i (fD d i) (.put b)) (doD d i (fD d i) (.put b)) w) := by
  obtain ⟨h0, vs, h1⟩ := h
  refine (append_in w h1 h0 i (fD_lt h1 hi) (fD d i) (fD_eq (fD_lt h1 hi)) p n c b hb hn hfew).mono ?_
  rintro e w' ⟨he, hl⟩
  exact ⟨he, DX.left h1 h0 hl⟩
theorem xcut {base db : Nat} {d : DD} (w : World) (h : DX base db d w) (i : Nat) (hi : i < 3) (m : Nat) (hm : m ≤ (fD d i).now.length) (hfew : (fD d i).steps.length + 1 ≤ 4398046511104) :
    Calls Tryd.prog 28 #[.pointer (some ⟨db, 0, none⟩), .int .i64 (i : Int), .int .i64 (m : Int)] w (StP base db (doE d i (fD d i) (.cut m)) (doD d i (fD d i) (.cut m)) w) := by
  obtain ⟨h0, vs, h1⟩ := h
  refine (cut_in w h1 h0 i (fD_lt h1 hi) (fD d i) (fD_eq (fD_lt h1 hi)) m hm hfew).mono ?_
  rintro e w' ⟨he, hl⟩
  exact ⟨he, DX.left h1 h0 hl⟩
theorem xsync {base db : Nat} {d : DD} (w : World) (h : DX base db d w) (i : Nat) (hi : i < 3) :
    Calls Tryd.prog 30 #[.pointer (some ⟨db, 0, none⟩), .int .i64 (i : Int)] w (StP base db (syncE d) (syncD d i (fD d i)) w) := by
  obtain ⟨h0, vs, h1⟩ := h
  refine (sync_in w h1 h0 i (fD_lt h1 hi) (fD d i) (fD_eq (fD_lt h1 hi))).mono ?_
  rintro e w' ⟨he, hl⟩
  exact ⟨he, DX.left h1 h0 hl⟩
theorem xread {base db : Nat} {d : DD} (w : World) (h : DX base db d w) (i : Nat) (hi : i < 3) :
    Calls Tryd.prog 46 #[.pointer (some ⟨db, 0, none⟩), .int .i64 (i : Int)] w fun e w' => ∃ p c, e = .returned (.slice p (fD d i).now.length c) ∧ Bs w' p (fD d i).now.length c (fD d i).now ∧ Below w.heap.size w w' := by
  obtain ⟨h0, vs, h1⟩ := h
  have := read_in w h1 i (fD_lt h1 hi)
  rw [fD_eq (fD_lt h1 hi)] at this
  refine this.mono ?_
  rintro e w' ⟨p, c, he, hr, hb⟩
  obtain ⟨p', c', e1, hs⟩ := hr.bs
  cases e1
  exact ⟨p, c, he, hs, hb⟩
theorem xunits {base db : Nat} {d : DD} (w : World) (h : DX base db d w) (i : Nat) (hi : i < 3) :
    Calls Tryd.prog 33 #[.pointer (some ⟨db, 0, none⟩), .int .i64 (i : Int)] w fun e w' => e = .returned (.int .i64 (unitsAll (fD d i).steps : Int)) ∧ Below w.heap.size w w' := by
  obtain ⟨h0, vs, h1⟩ := h
  have := units_in w h1 i (fD_lt h1 hi)
  rw [fD_eq (fD_lt h1 hi)] at this
  exact this
theorem xsize {base db : Nat} {d : DD} (w : World) (h : DX base db d w) (i : Nat) (hi : i < 3) :
    Calls Tryd.prog 32 #[.pointer (some ⟨db, 0, none⟩), .int .i64 (i : Int)] w fun e w' => e = .returned (.int .i64 ((fD d i).now.length : Int)) ∧ Below w.heap.size w w' := by
  obtain ⟨h0, vs, h1⟩ := h
  have := size_in w h1 i (fD_lt h1 hi)
  rw [fD_eq (fD_lt h1 hi)] at this
  exact this
theorem DX.room {base db : Nat} {d : DD} {w : World} (h : DX base db d w) : 1 ≤ d.room ∧ d.room ≤ 65536 ∧ usedL d.fs ≤ d.room := by
  obtain ⟨_, vs, h1⟩ := h
  exact ⟨h1.room1.1, h1.room1.2, h1.used⟩
theorem DX.len3 {base db : Nat} {d : DD} {w : World} (h : DX base db d w) : d.fs.length = 3 := by
  obtain ⟨_, vs, h1⟩ := h
  exact h1.m3
theorem DX.ok {base db : Nat} {d : DD} {w : World} (h : DX base db d w) {i : Nat} (hi : i < 3) : (fD d i).Ok := by
  obtain ⟨_, vs, h1⟩ := h
  have hl := fD_lt h1 hi
  have := (h1.each i _ _ (List.getElem?_eq_getElem (by rw [h1.n3]; exact hi)) (List.getElem?_eq_getElem hl)).ok
  rwa [fD_eq hl] at this
theorem DX.le {base db : Nat} {d : DD} {w : World} (h : DX base db d w) {i : Nat} (hi : i < 3) : (fD d i).now.length ≤ 65536 := by
  have h1 := (h.ok hi).le
  have h2 := h.room
  have hl : i < d.fs.length := by rw [h.len3]; exact hi
  have h3 := usedL_mem hl
  rw [fD_eq hl] at h3
  omega
end Go.Proofs.YtgmahahhkaofbaaDoor.Rol

namespace Go.Proofs.YtgmahahhkaofbaaDoor.Slt
open Go.RowKit Go.Mir Dk Rol Wr
open Frm (frame one frame_length one_frame0 one_torn)

/-- what a file tells: its turn, and the snapshot -/
def loadP (l : List UInt8) : Nat × List UInt8 := if (one l).2.2 = 0 ∧ 8 ≤ (one l).1.length then (Rdr.beN ((one l).1.take 8), (one l).1.drop 8) else (0, [])
theorem load_nil : loadP [] = (0, []) := rfl
theorem load_of {l x : List UInt8} {n : Nat} (h : one l = (x, n, 0)) (h8 : 8 ≤ x.length) : loadP l = (Rdr.beN (x.take 8), x.drop 8) := by
  unfold loadP
  rw [h]
  exact if_pos ⟨rfl, h8⟩
theorem load_no {l : List UInt8} (h : ¬ (one l).2.2 = 0) : loadP l = (0, []) := by
  unfold loadP
  exact if_neg (fun hh => h hh.1)
theorem load_frame (t : Nat) (x : List UInt8) (ht : t < 18446744073709551616) (hx : x.length ≤ 65528) : loadP (frame (be t 8 ++ x)) = (t, x) := by
  have hl : (be t 8 ++ x).length = 8 + x.length := by rw [List.length_append, be_length]
  rw [load_of (one_frame0 _ (by omega) (by omega)) (by omega), List.take_left' (be_length t 8), List.drop_left' (be_length t 8), Cod.beN_be t 8 (by omega) (by omega)]
theorem load_torn (t : Nat) (x : List UInt8) (hx : x.length ≤ 65528) (k : Nat) (hk : k < 16 + x.length) : loadP ((frame (be t 8 ++ x)).take k) = (0, []) := by
  have hl : (be t 8 ++ x).length = 8 + x.length := by rw [List.length_append, be_length]
  refine load_no ?_
  rw [one_torn _ (by omega) (by omega) k (by omega)]
  decide
theorem load_lt (l : List UInt8) : (loadP l).1 < 18446744073709551616 := by
  unfold loadP
  split
  · rename_i h
    have h1 := Rdr.beN_lt_pow ((one l).1.take 8)
    rw [List.length_take, Nat.min_eq_left h.2] at h1
    show Rdr.beN _ < _
    omega
  · show 0 < _; omega
/-- slots: the current file, its turn and snapshot -/
structure SS where
  now : Int
  turn : Nat
  body : List UInt8
def bet (s : SS) (f : Nat) (l : List UInt8) : SS := if s.turn < (loadP l).1 then ⟨(f : Int), (loadP l).1, (loadP l).2⟩ else s
def opnS (d : DD) (a b : Nat) : SS := bet (bet ⟨-1, 0, []⟩ a (fD d a).now) b (fD d b).now
/-- calls of a disk's, to one file -/
inductive LA where
  | cut
  | sync
  | put (b : List UInt8)
def stpD (d : DD) (i : Nat) : LA → DD
  | .cut => doD d i (fD d i) (.cut 0)
  | .sync => syncD d i (fD d i)
  | .put b => doD d i (fD d i) (.put b)
def stpE (d : DD) (i : Nat) : LA → Int
  | .cut => doE d i (fD d i) (.cut 0)
  | .sync => syncE d
  | .put b => doE d i (fD d i) (.put b)
def layD (i : Nat) : List LA → DD → DD
  | [], d => d
  | a :: r, d => if stpE d i a = 0 then layD i r (stpD d i a) else stpD d i a
def layE (i : Nat) : List LA → DD → Int
  | [], _ => 0
  | a :: r, d => if stpE d i a = 0 then layE i r (stpD d i a) else stpE d i a
theorem lay_ok {i : Nat} {a : LA} {r : List LA} {d : DD} (h : stpE d i a = 0) : layD i (a :: r) d = layD i r (stpD d i a) ∧ layE i (a :: r) d = layE i r (stpD d i a) := ⟨if_pos h, if_pos h⟩
theorem lay_no {i : Nat} {a : LA} {r : List LA} {d : DD} (h : ¬ stpE d i a = 0) : layD i (a :: r) d = stpD d i a ∧ layE i (a :: r) d = stpE d i a := ⟨if_neg h, if_neg h⟩
/-- the file that is not current -/
def nxt (s : SS) (a b : Nat) : Nat := if s.now = (a : Int) then b else a
def full (d : DD) (i : Nat) : Bool := decide (0 < (fD d i).now.length) || decide (0 < unitsAll (fD d i).steps)
def acts (d : DD) (i : Nat) (y : List UInt8) : List LA := if full d i = true then [.cut, .sync, .put y, .sync] else [.put y, .sync]
def wrapB (s : SS) (x : List UInt8) : List UInt8 := frame (be (s.turn + 1) 8 ++ x)
def fits (s : SS) (x : List UInt8) : Bool := decide (x.length ≤ 65528) && decide (s.turn + 1 < 18446744073709551616)
def putSD (d : DD) (s : SS) (a b : Nat) (x : List UInt8) : DD := if fits s x = true then layD (nxt s a b) (acts d (nxt s a b) (wrapB s x)) d else d
def putSE (d : DD) (s : SS) (a b : Nat) (x : List UInt8) : Int := if fits s x = true then layE (nxt s a b) (acts d (nxt s a b) (wrapB s x)) d else 1
def putSS (d : DD) (s : SS) (a b : Nat) (x : List UInt8) : SS := if fits s x = true ∧ layE (nxt s a b) (acts d (nxt s a b) (wrapB s x)) d = 0 then ⟨(nxt s a b : Int), s.turn + 1, x⟩ else s

/-! ### a disk that is up, and without a fuse -/
theorem fD_set {d : DD} {i : Nat} (h : i < d.fs.length) (f : FD) : fD (setF d i f) i = f := by
  unfold fD setF
  simp [h]
theorem fD_other {d : DD} {i k : Nat} (h : i ≠ k) (f : FD) : fD (setF d i f) k = fD d k := by
  unfold fD setF
  simp [List.getElem?_set_ne h]
theorem setF_setF (d : DD) (i : Nat) (f g : FD) : setF (setF d i f) i g = setF d i g := by unfold setF; simp only [List.set_set]
theorem used_setF {d : DD} {i : Nat} (h : i < d.fs.length) (f : FD) : usedL (setF d i f).fs + (fD d i).need = usedL d.fs + f.need := by rw [← fD_eq h]; exact usedL_set h f
theorem settle_all {f : FD} (h : f.Ok) : f.settle (unitsAll f.steps) = fS f.now := by
  show (⟨someU f.kept f.steps (unitsAll f.steps), someU f.kept f.steps (unitsAll f.steps), [], (someU f.kept f.steps (unitsAll f.steps)).length⟩ : FD) = _
  rw [someU_all _ _ _ (Nat.le_refl _), ← h.now]
  rfl
theorem burn0 {d : DD} (h : d.fuse = 0) : d.burn = d := by unfold DD.burn; rw [if_neg (by omega)]
theorem up_do {d : DD} {i : Nat} {f : FD} {s : St} (h1 : d.down = false) (h2 : d.fuse = 0) (h : usedL d.fs - f.need + max f.need (s.size f.now.length) ≤ d.room) : doE d i f s = 0 ∧ doD d i f s = setF d i (f.take s) := by
  have hb : (setF d i (f.take s)).burn = setF d i (f.take s) := burn0 h2
  unfold doE doD
  have hb2 : ¬ (setF d i (f.take s)).down = true := by show ¬ d.down = true; rw [h1]; decide
  have hb1 : ¬ d.down = true := by rw [h1]; decide
  have hb3 : ¬ d.room < usedL d.fs - f.need + max f.need (s.size f.now.length) := by omega
  rw [if_neg hb1, if_neg hb3, hb, if_neg hb2, if_neg hb1, if_neg hb3]
  exact ⟨rfl, rfl⟩
theorem up_sync {d : DD} {i : Nat} {f : FD} (h1 : d.down = false) (h2 : d.fuse = 0) : syncE d = 0 ∧ syncD d i f = setF d i (f.settle (unitsAll f.steps)) := by
  unfold syncE syncD
  rw [burn0 h2, if_neg (by rw [h1]; decide), if_neg (by rw [h1]; decide), if_neg (by rw [h1]; decide), if_neg (by rw [h1]; decide)]
  exact ⟨rfl, rfl⟩
theorem lay_up {d : DD} {i : Nat} {y : List UInt8} (hi : i < d.fs.length) (h1 : d.down = false) (h2 : d.fuse = 0) (hok : (fD d i).Ok) (hy : y.length ≤ 65536) (hr : usedL d.fs + y.length ≤ d.room) :
    layE i (acts d i y) d = 0 ∧ layD i (acts d i y) d = setF d i (fS y) := by
  have hle := hok.le
  have hm := usedL_mem hi
  rw [fD_eq hi] at hm
  have hE0 : ∀ (d' : DD) (x : List UInt8), d'.down = false → d'.fuse = 0 → i < d'.fs.length → fD d' i = fS [] → usedL d'.fs + y.length ≤ d'.room → layE i [.put y, .sync] d' = 0 ∧ layD i [.put y, .sync] d' = setF d' i (fS y) := by
    intro d' _ a1 a2 a3 a4 a5
    obtain ⟨e1, e2⟩ := up_do (i := i) (f := fD d' i) (s := .put y) a1 a2 (by rw [a4]; show usedL d'.fs - 0 + max 0 (0 + y.length) ≤ _; omega)
    have e1' : stpE d' i (.put y) = 0 := e1
    have e2' : stpD d' i (.put y) = setF d' i ((fD d' i).take (.put y)) := e2
    obtain ⟨c1, c2⟩ := lay_ok (r := [.sync]) e1'
    rw [c1, c2, e2', a4, take_put]
    have hf : fD (setF d' i ⟨[], [] ++ y, [.put y], ([] : List UInt8).length + y.length⟩) i = ⟨[], [] ++ y, [.put y], ([] : List UInt8).length + y.length⟩ := fD_set a3 _
    obtain ⟨g1, g2⟩ := up_sync (d := setF d' i ⟨[], [] ++ y, [.put y], ([] : List UInt8).length + y.length⟩) (i := i) (f := ⟨[], [] ++ y, [.put y], ([] : List UInt8).length + y.length⟩) a1 a2
    rw [settle_put, setF_setF] at g2
    have g1' : stpE (setF d' i ⟨[], [] ++ y, [.put y], ([] : List UInt8).length + y.length⟩) i .sync = 0 := g1
    have g2' : stpD (setF d' i ⟨[], [] ++ y, [.put y], ([] : List UInt8).length + y.length⟩) i .sync = setF d' i (fS y) := by
      show syncD _ i (fD _ i) = _
      rw [hf]; exact g2
    obtain ⟨k1, k2⟩ := lay_ok (r := []) g1'
    rw [k1, k2, g2']
    exact ⟨rfl, rfl⟩
  unfold acts
  by_cases hf : full d i = true
  · rw [if_pos hf]
    obtain ⟨e1, e2⟩ := up_do (i := i) (f := fD d i) (s := .cut 0) h1 h2 (by show usedL d.fs - (fD d i).need + max (fD d i).need 0 ≤ _; omega)
    have e1' : stpE d i .cut = 0 := e1
    have e2' : stpD d i .cut = setF d i ((fD d i).take (.cut 0)) := e2
    obtain ⟨c1, c2⟩ := lay_ok (r := [.sync, .put y, .sync]) e1'
    rw [c1, c2, e2']
    have hok1 : ((fD d i).take (.cut 0)).Ok := FD.take_ok hok (Nat.zero_le _) (by show 1 ≤ 65536; omega)
    have hn1 : ((fD d i).take (.cut 0)).now = [] := by show (St.cut 0).act (fD d i).now (St.cut 0).units = _; rw [act_full]; exact List.take_zero
    have hs := settle_all hok1
    rw [hn1] at hs
    obtain ⟨g1, g2⟩ := up_sync (d := setF d i ((fD d i).take (.cut 0))) (i := i) (f := (fD d i).take (.cut 0)) h1 h2
    rw [hs, setF_setF] at g2
    have g1' : stpE (setF d i ((fD d i).take (.cut 0))) i .sync = 0 := g1
    have g2' : stpD (setF d i ((fD d i).take (.cut 0))) i .sync = setF d i (fS []) := by
      show syncD _ i (fD _ i) = _
      rw [fD_set hi]; exact g2
    obtain ⟨k1, k2⟩ := lay_ok (r := [.put y, .sync]) g1'
    rw [k1, k2, g2']
    have hu := used_setF hi (fS [])
    have hz : (fS []).need = 0 := rfl
    have hl : (setF d i (fS [])).fs.length = d.fs.length := List.length_set
    have := hE0 (setF d i (fS [])) [] h1 h2 (by rw [hl]; exact hi) (fD_set hi _) (by show _ ≤ d.room; omega)
    rw [setF_setF] at this
    exact this
  · rw [if_neg hf]
    have hf2 : ¬ (0 < (fD d i).now.length ∨ 0 < unitsAll (fD d i).steps) := by
      intro h; apply hf; unfold full
      rcases h with h | h
      · rw [decide_eq_true h]; rfl
      · rw [decide_eq_true h, Bool.or_true]
    have hn0 : (fD d i).now = [] := List.length_eq_zero_iff.1 (by omega)
    obtain ⟨e1, e2⟩ := up_do (i := i) (f := fD d i) (s := .put y) h1 h2 (by rw [hn0]; show usedL d.fs - (fD d i).need + max (fD d i).need (0 + y.length) ≤ _; omega)
    have e1' : stpE d i (.put y) = 0 := e1
    have e2' : stpD d i (.put y) = setF d i ((fD d i).take (.put y)) := e2
    obtain ⟨c1, c2⟩ := lay_ok (r := [.sync]) e1'
    rw [c1, c2, e2']
    have hok1 : ((fD d i).take (.put y)).Ok := FD.take_ok hok trivial hy
    have hn1 : ((fD d i).take (.put y)).now = y := by show (St.put y).act (fD d i).now (St.put y).units = _; rw [act_full, hn0]; rfl
    have hs := settle_all hok1
    rw [hn1] at hs
    obtain ⟨g1, g2⟩ := up_sync (d := setF d i ((fD d i).take (.put y))) (i := i) (f := (fD d i).take (.put y)) h1 h2
    rw [hs, setF_setF] at g2
    have g1' : stpE (setF d i ((fD d i).take (.put y))) i .sync = 0 := g1
    have g2' : stpD (setF d i ((fD d i).take (.put y))) i .sync = setF d i (fS y) := by
      show syncD _ i (fD _ i) = _
      rw [fD_set hi]; exact g2
    obtain ⟨k1, k2⟩ := lay_ok (r := []) g1'
    rw [k1, k2, g2']
    exact ⟨rfl, rfl⟩
/-- a snapshot put on a disk that is up, where it fits -/
theorem put_up {d : DD} {s : SS} {a b : Nat} {x : List UInt8} (h3 : d.fs.length = 3) (ha : a < 3) (hb : b < 3) (h1 : d.down = false) (h2 : d.fuse = 0) (hok : ∀ i, i < 3 → (fD d i).Ok) (hx : x.length ≤ 60000) (ht : s.turn + 1 < 18446744073709551616) (hr : usedL d.fs + (16 + x.length) ≤ d.room) :
    putSE d s a b x = 0 ∧ putSD d s a b x = setF d (nxt s a b) (fS (wrapB s x)) ∧ putSS d s a b x = ⟨(nxt s a b : Int), s.turn + 1, x⟩ := by
  have hn : nxt s a b < 3 := by unfold nxt; split <;> omega
  have hw : (wrapB s x).length = 16 + x.length := by unfold wrapB; rw [frame_length, List.length_append, be_length]; omega
  have hf : fits s x = true := by unfold fits; rw [decide_eq_true (by omega), decide_eq_true ht]; rfl
  obtain ⟨e1, e2⟩ := lay_up (d := d) (i := nxt s a b) (y := wrapB s x) (by omega) h1 h2 (hok _ hn) (by omega) (by omega)
  unfold putSE putSD putSS
  rw [if_pos hf, if_pos hf, if_pos ⟨hf, e1⟩]
  exact ⟨e1, e2, rfl⟩
end Go.Proofs.YtgmahahhkaofbaaDoor.Slt

namespace Go.Proofs.YtgmahahhkaofbaaDoor.Slt
open Go.RowKit Go.Mir Go.Mir.Parts Dk Rol

/-- the row of slots -/
def slA (db a b : Nat) (s : SS) (pb : Option Addr) (cb bx : Nat) : Array Value := #[.pointer (some ⟨db, 0, none⟩), .int .i64 (a : Int), .int .i64 (b : Int), .int .i64 s.now, .int .u64 (s.turn : Int), .slice pb s.body.length cb, .func (.func 44) #[] #[.pointer (some ⟨bx, 0, none⟩)]]
/-- blocks that slots' calls may turn -/
def STy (base : Nat) (w : World) (k : Nat) : Prop := base ≤ k ∧ ∃ M t fr, w.heap[k]? = some (.cells M t fr) ∧ (t = 58 ∨ t = 76 ∨ t = 46)
def KS (base : Nat) (w w' : World) : Prop := Turns (STy base w) w w'
theorem KS.refl (base : Nat) (w : World) : KS base w w := Turns.refl _ _
theorem KS.of_kt {base : Nat} {a b : World} (h : KT base a b) : KS base a b := h.imp (fun _k _ ⟨h1, M, t, fr, hm, ht⟩ => ⟨h1, M, t, fr, hm, ht.imp id .inl⟩)
theorem KS.trans {base : Nat} {a b c : World} (h : KS base a b) (k : KS base b c) : KS base a c :=
  ⟨k.os.trans h.os, k.tape.trans h.tape, k.output.trans h.output, Nat.le_trans h.size k.size, fun i hi hS => by
    have e1 := h.block i hi hS
    have hS2 : ¬ STy base b i := fun h' => hS (by
      obtain ⟨h1, M, t, fr, h2, h3⟩ := h'
      exact ⟨h1, M, t, fr, by rw [← e1]; exact h2, h3⟩)
    rw [k.block i (Nat.lt_of_lt_of_le hi h.size) hS2]; exact e1⟩
theorem KS.of_below {base : Nat} {a b : World} (h : Below a.heap.size a b) : KS base a b := Turns.of_below h
theorem KS.next {base : Nat} {a b c : World} (h : KS base a b) (k : Below b.heap.size b c) : KS base a c := h.trans (.of_below k)
theorem KS.below {base : Nat} {a b : World} (h : KS base a b) (hb : base ≤ a.heap.size) : Below base a b := Turns.below h hb (fun _ hi => hi.1)
theorem KS.row {base : Nat} {a b : World} (h : KS base a b) {k : Nat} {M : Array Value} {t : TypeId} {fr : Nat × Nat} (hr : a.heap[k]? = some (.cells M t fr)) (h1 : t ≠ 58) (h2 : t ≠ 76) (h3 : t ≠ 46) : b.heap[k]? = some (.cells M t fr) :=
  Turns.keep h hr (fun ⟨_, M', t', fr', e, ht⟩ => by
    rw [hr] at e
    injection e with e1
    injection e1 with _ e2
    subst e2
    rcases ht with ht | ht | ht
    · exact h1 ht
    · exact h2 ht
    · exact h3 ht)
theorem KS.etype {base : Nat} {a b : World} (h : KS base a b) (hE : Rdr.EType a) (hb : 0 < base) : Rdr.EType b := by
  have hlt := hE.lt
  have h1 : a.heap[0]? = some (a.heap[0]'hlt) := Array.getElem?_eq_getElem hlt
  have h2 := Turns.keep h h1 (fun hs => by have := hs.1; omega)
  unfold Rdr.EType at hE ⊢
  rw [World.cell?] at hE ⊢
  rw [h1] at hE
  rw [h2]
  exact hE
theorem kt_no8 {base : Nat} {w : World} : ∀ k M fr, w.heap[k]? = some (.cells M 5 fr) → ¬ DTy base w k := fun k M fr hm ⟨_, M', t', fr', e, ht⟩ => by
  rw [hm] at e
  injection e with e1
  injection e1 with _ e2
  subst e2
  exact ht.elim (by decide) (by decide)
theorem ks_no8 {base : Nat} {w : World} : ∀ k M fr, w.heap[k]? = some (.cells M 5 fr) → ¬ STy base w k := fun k M fr hm ⟨_, M', t', fr', e, ht⟩ => by
  rw [hm] at e
  injection e with e1
  injection e1 with _ e2
  subst e2
  rcases ht with ht | ht | ht
  · exact absurd ht (by decide)
  · exact absurd ht (by decide)
  · exact absurd ht (by decide)
/-- bytes that were handed in stay, whatever slots do -/
theorem KS.bs {base : Nat} {a b : World} (h : KS base a b) {p : Option Addr} {n c : Nat} {l : List UInt8} (hb : Rd a base (.slice p n c) l) : Rd b base (.slice p n c) l := hb.touch h ks_no8
/-- slots, with their disk -/
structure SX (base sb db a b : Nat) (d : DD) (s : SS) (w : World) : Prop where
  dx : DX base db d w
  low : base ≤ sb
  row : ∃ pb cb bx, w.heap[sb]? = some (.cells (slA db a b s pb cb bx) 46 (0, 0)) ∧ Rd w base (.slice pb s.body.length cb) s.body ∧ w.heap[bx]? = some (.cells #[.pointer (some ⟨db, 0, none⟩)] 26 (0, 0))
  turn : s.turn < 18446744073709551616
  now : -1 ≤ s.now ∧ s.now ≤ 2
theorem SX.kt {base sb db a b : Nat} {d d' : DD} {s : SS} {w w' : World} (h : SX base sb db a b d s w) (hk : KT base w w') (hd : DX base db d' w') : SX base sb db a b d' s w' := by
  obtain ⟨pb, cb, bx, h1, h2, h3⟩ := h.row
  exact ⟨hd, h.low, ⟨pb, cb, bx, hk.row h1 (by decide) (by decide), h2.touch hk kt_no8, hk.row h3 (by decide) (by decide)⟩, h.turn, h.now⟩
theorem SX.below {base sb db a b : Nat} {d : DD} {s : SS} {w w' : World} (h : SX base sb db a b d s w) (hb : Below w.heap.size w w') : SX base sb db a b d s w' := h.kt (KT.of_below hb) (h.dx.below hb)
theorem slA_cells {w : World} {sb db a b : Nat} {s : SS} {pb : Option Addr} {cb bx : Nat} {t : TypeId} {fr : Nat × Nat} (h : w.heap[sb]? = some (.cells (slA db a b s pb cb bx) t fr)) :
    w.cell? ⟨sb, 0, none⟩ = some (.pointer (some ⟨db, 0, none⟩)) ∧ w.cell? ⟨sb, 1, none⟩ = some (.int .i64 (a : Int)) ∧ w.cell? ⟨sb, 2, none⟩ = some (.int .i64 (b : Int)) ∧ w.cell? ⟨sb, 3, none⟩ = some (.int .i64 s.now) ∧ w.cell? ⟨sb, 4, none⟩ = some (.int .u64 (s.turn : Int)) ∧ w.cell? ⟨sb, 5, none⟩ = some (.slice pb s.body.length cb) ∧ w.cell? ⟨sb, 6, none⟩ = some (.func (.func 44) #[] #[.pointer (some ⟨bx, 0, none⟩)]) := by
  refine ⟨?_, ?_, ?_, ?_, ?_, ?_, ?_⟩ <;> (rw [cell_of_row _ _ _ _ _ _ h]; rfl)
theorem bet_now {s : SS} {f : Nat} (l : List UInt8) (hf : f < 3) (h : -1 ≤ s.now ∧ s.now ≤ 2) : -1 ≤ (bet s f l).now ∧ (bet s f l).now ≤ 2 := by
  unfold bet
  split
  · show -1 ≤ (f : Int) ∧ (f : Int) ≤ 2; omega
  · exact h
theorem bet_turn {s : SS} (f : Nat) (l : List UInt8) (h : s.turn < 18446744073709551616) : (bet s f l).turn < 18446744073709551616 := by
  unfold bet
  split
  · exact load_lt l
  · exact h
theorem opn_now (d : DD) (a b : Nat) (ha : a < 3) (hb : b < 3) : -1 ≤ (opnS d a b).now ∧ (opnS d a b).now ≤ 2 := bet_now _ hb (bet_now _ ha (by show -1 ≤ (-1 : Int) ∧ (-1 : Int) ≤ 2; omega))
theorem opn_turn (d : DD) (a b : Nat) : (opnS d a b).turn < 18446744073709551616 := bet_turn _ _ (bet_turn _ _ (by show 0 < _; omega))
/-- the program's disk stays where other blocks are turned -/
theorem dx_turn {base db : Nat} {d : DD} {S : Nat → Prop} {w w' : World} (h : DX base db d w) (ht : Turns S w w') (hS : ∀ k M t fr, S k → w.heap[k]? = some (.cells M t fr) → t ≠ 58 ∧ t ≠ 76 ∧ t ≠ 5) : DX base db d w' := by
  obtain ⟨h0, vs, h1⟩ := h
  have hno : ∀ k, DOwn db vs k → ¬ S k := fun k hk hs => by
    obtain ⟨_, M, t, fr, e1, e2⟩ := dat_dty h1 k hk
    have := hS k M t fr hs e1
    rcases e2 with e2 | e2
    · exact this.1 e2
    · exact this.2.1 e2
  refine ⟨Nat.le_trans h0 ht.size, vs, ht.keep h1.row (hno db (.inl rfl)), h1.low, h1.n3, h1.m3, fun i v f hv hf => ?_, h1.apart, h1.room1, h1.fuse1, h1.used, h1.few⟩
  exact (h1.each i v f hv hf).touch ht (fun k M fr hk hs => (hS k M _ fr hs hk).2.2 rfl) (fun k hk => hno k (.inr ⟨v, List.mem_of_getElem? hv, hk⟩))
/-- the current file, turn and snapshot stored anew -/
theorem SX.set3 {base sb db a b : Nat} {d : DD} {s : SS} {w : World} (h : SX base sb db a b d s w) (n : Int) (hn : -1 ≤ n ∧ n ≤ 2) (t : Nat) (ht : t < 18446744073709551616) (p : Option Addr) (c : Nat) (l : List UInt8) (hl : Rd w base (.slice p l.length c) l) :
    SX base sb db a b d ⟨n, t, l⟩ (((w.setCell ⟨sb, 3, none⟩ (.int .i64 n)).setCell ⟨sb, 4, none⟩ (.int .u64 (t : Int))).setCell ⟨sb, 5, none⟩ (.slice p l.length c)) ∧
      KS base w (((w.setCell ⟨sb, 3, none⟩ (.int .i64 n)).setCell ⟨sb, 4, none⟩ (.int .u64 (t : Int))).setCell ⟨sb, 5, none⟩ (.slice p l.length c)) ∧ Turns (fun k => k = sb) w (((w.setCell ⟨sb, 3, none⟩ (.int .i64 n)).setCell ⟨sb, 4, none⟩ (.int .u64 (t : Int))).setCell ⟨sb, 5, none⟩ (.slice p l.length c)) := by
  obtain ⟨pb, cb, bx, h1, h2, h3⟩ := h.row
  have e1 := Dk.cell_put (off := 3) (.int .i64 n) h1
  have e2 := Dk.cell_put (off := 4) (.int .u64 (t : Int)) e1
  have e3 := Dk.cell_put (off := 5) (.slice p l.length c) e2
  have t1 : Turns (fun k => k = sb) w (w.setCell ⟨sb, 3, none⟩ (.int .i64 n)) := Turns.setCell (S := fun k => k = sb) (p := ⟨sb, 3, none⟩) (Turns.refl _ w) (fun _ => rfl) (.int .i64 n)
  have t2 : Turns (fun k => k = sb) w ((w.setCell ⟨sb, 3, none⟩ (.int .i64 n)).setCell ⟨sb, 4, none⟩ (.int .u64 (t : Int))) := Turns.setCell (S := fun k => k = sb) (p := ⟨sb, 4, none⟩) t1 (fun _ => rfl) (.int .u64 (t : Int))
  have hT : Turns (fun k => k = sb) w (((w.setCell ⟨sb, 3, none⟩ (.int .i64 n)).setCell ⟨sb, 4, none⟩ (.int .u64 (t : Int))).setCell ⟨sb, 5, none⟩ (.slice p l.length c)) := Turns.setCell (S := fun k => k = sb) (p := ⟨sb, 5, none⟩) t2 (fun _ => rfl) (.slice p l.length c)
  have hbx : bx ≠ sb := fun e => by
    rw [e, h1] at h3
    injection h3 with q1
    injection q1 with _ q2
    exact absurd q2 (by decide)
  refine ⟨⟨dx_turn h.dx hT (fun k M t' fr hk hm => ?_), h.low, ⟨p, c, bx, e3, hl.touch hT (fun k M fr hm hk => ?_), hT.keep h3 hbx⟩, ht, hn⟩, hT.imp (fun k _ hk => ?_), hT⟩
  · have hk : k = sb := hk
    subst hk
    rw [h1] at hm
    injection hm with q1
    injection q1 with _ q2
    subst q2
    exact ⟨by decide, by decide, by decide⟩
  · have hk : k = sb := hk
    subst hk
    rw [h1] at hm
    injection hm with q1
    injection q1 with _ q2
    exact absurd q2 (by decide)
  · have hk : k = sb := hk
    subst hk
    exact ⟨h.low, _, _, _, h1, .inr (.inr rfl)⟩
end Go.Proofs.YtgmahahhkaofbaaDoor.Slt
