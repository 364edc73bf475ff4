/- PARTS, JOINED: FRAMES: the reference: One. Conditions: at most 2^40 bytes. FRAMES: One. Conditions: the laid cell of errors.errorType; at most 2^40 bytes. A [][]byte THAT THE CALL OWNS, each element a slice of bytes that it does not overwrite. Conditions: none. FRAMES: all frames one behind the other, plain; the reference's Scan. Conditions: at most 4000 bytes. A RANGE OVER A FUNCTION WHOSE ROUNDS ARE HANDED MEMORY THAT THE ITERATOR HAS LAID: the iterator tells of each element what it knows of the world ('G'). No program is named. Conditions: none. FRAMES: All, and its function. Conditions: the laid cell of errors.errorType; at most 4000 bytes. FRAMES: Scan. Conditions: the laid cell of errors.errorType; at most 4000 bytes. FRAMES: the reference's Same: are lists of bytes the same? Conditions: none. CRC: the walk of the statement CrcTurned. FRAMES, plain: there and back, torn, turned, one behind the other. Conditions: none. -/
import Derived.Test.YtnejjfglkindjaaGreatDoorVb1
import Derived.Test.YtnejjfglkindjaaGreatDoorVb2
import Derived.Test.YtnejjfglkindjaaGreatDoorVb3
import Derived.Test.YtnejjfglkindjaaGreatDoorVb4
import Derived.Test.YtnejjfglkindjaaGreatDoorVb5
import Derived.Test.YtnejjfglkindjaaGreatDoorChecked
import Derived.RangeFuncNested
import Derived.RangeFuncBound
import Derived.RangeFuncCalls
import Derived.RangeFuncLeaves
import Derived.RangeFuncBox
import Derived.Shelf.Abstract
import Derived.Shelf.RegionOpen
import Derived.WalkKit
import Derived.OwnWalkIn
import Derived.TacticsInMore
import Derived.LoopNIn
import Derived.LoopIn
import Derived.Maps.AppendAt
import Derived.BigRegion
import Derived.Laws.ShiftsVar
namespace Go.Proofs.YtnejjfglkindjaaGreatDoor.Frm
open Go.RowKit Go.Mir Go.Mir.Parts Wr Cod Cut

theorem results_tmp3 {P : Program} {fn : Func} {p q r : Tmp} (h : fn.results = #[.tmp p, .tmp q, .tmp r]) (tmps : Array Value) (w : World) :
    (results fn tmps).run P w = .ok (.tuple #[tmps.getD p undef, tmps.getD q undef, tmps.getD r undef]) w := by
  simp [results, h]
/-- the first frame -/
def one (l : List UInt8) : List UInt8 × Nat × Int :=
  if l.length < 4 then ([], 0, 2)
  else if Rdr.beN (l.take 4) < 1 ∨ 65536 < Rdr.beN (l.take 4) then ([], 0, 4)
  else if l.length < 8 + Rdr.beN (l.take 4) then ([], 0, 2)
  else if frame ((l.drop 8).take (Rdr.beN (l.take 4))) = l.take (8 + Rdr.beN (l.take 4)) then ((l.drop 8).take (Rdr.beN (l.take 4)), 8 + Rdr.beN (l.take 4), 0)
  else ([], 0, 9)
def OneP (l : List UInt8) (w : World) (e : Ending) (w' : World) : Prop := ∃ p' c', e = .returned (.tuple #[.slice p' (one l).1.length c', .int .i64 ((one l).2.1 : Int), .int .i64 (one l).2.2]) ∧ w'.ownsRow w.heap.size 5 1 (.slice p' (one l).1.length c') (one l).1.length (bytesV (one l).1) ∧ Below w.heap.size w w'
set_option maxRecDepth 100000 in
theorem rone_any (p : Option Addr) (n c : Nat) (l : List UInt8) (w : World) (hB : Bs w p n c l) (hn : n ≤ 1099511627776) :
    Calls Tryz.prog 122 #[.slice p n c] w (OneP l w) := by
  have HB := Lib.hid hB
  have HN := Lib.hid hB.length
  have hle := hB.le
  have hmax := hB.max
  clear hB
  have HF : Hid (∀ k, one l = ([], 0, k) → OneP l w (.returned (.tuple #[.slice none 0 0, .int .i64 0, .int .i64 k])) w) := fun k hk => by
    unfold OneP
    rw [hk]
    exact ⟨none, 0, rfl, ⟨rfl, .inl ⟨rfl, rfl⟩⟩, Below.refl _ _⟩
  by_cases h4 : n < 4
  · have d1 : decide ((n : Int) < 4) = true := decide_eq_true (by omega)
    have HG := Lib.hid (HF.out 2 (by unfold one; rw [if_pos (by rw [HN.out]; exact h4)]))
    clear h4
    go_enter Tryz.func122, Tryz.ntmps122
    go_wp2_with fail
    refine bodyPost_ret (results_tmp3 rfl _ _) rfl ?_
    exact HG.out
  have d1 : decide ((n : Int) < 4) = false := decide_eq_false (by omega)
  have hrun := cut0 HB.out 4 4 rfl (by omega)
  have hV := Rdr.beN_lt_pow (l.take 4)
  rw [List.length_take, HN.out, Nat.min_eq_left (by omega)] at hV
  have hone : one l = if Rdr.beN (l.take 4) < 1 ∨ 65536 < Rdr.beN (l.take 4) then ([], 0, 4)
    else if l.length < 8 + Rdr.beN (l.take 4) then ([], 0, 2)
    else if frame ((l.drop 8).take (Rdr.beN (l.take 4))) = l.take (8 + Rdr.beN (l.take 4)) then ((l.drop 8).take (Rdr.beN (l.take 4)), 8 + Rdr.beN (l.take 4), 0)
    else ([], 0, 9) := by unfold one; rw [if_neg (by rw [HN.out]; omega)]
  have hval := value_any p 4 c (l.take 4) w (bs_take HB.out (by omega)) (by omega)
  rw [HN.out] at hone
  generalize Rdr.beN (l.take 4) = V at *
  have HVAL := Lib.hid hval
  have HONE := Lib.hid hone
  clear hval hone h4
  go_enter Tryz.func122, Tryz.ntmps122
  go_wp2_with fail
  refine HVAL.out.mono ?_
  rintro e w' ⟨rfl, rfl⟩
  clear HVAL hrun
  by_cases h1 : V < 1
  · have e1 : decide ((V : Int) < 1) = true := decide_eq_true (by omega)
    have HG := Lib.hid (HF.out 4 (by rw [HONE.out, if_pos (.inl h1)]))
    clear h1
    go_wp2_with fail
    refine bodyPost_ret (results_tmp3 rfl _ _) rfl ?_
    exact HG.out
  have e1 : decide ((V : Int) < 1) = false := decide_eq_false (by omega)
  by_cases h2 : 65536 < V
  · have e2 : decide ((65536 : Int) < (V : Int)) = true := decide_eq_true (by omega)
    have HG := Lib.hid (HF.out 4 (by rw [HONE.out, if_pos (.inr h2)]))
    clear h2
    go_wp2_with fail
    refine bodyPost_ret (results_tmp3 rfl _ _) rfl ?_
    exact HG.out
  have e2 : decide ((65536 : Int) < (V : Int)) = false := decide_eq_false (by omega)
  have q1 : IntKind.i64.wrap (8 + (V : Int)) = ((8 + V : Nat) : Int) := by rw [IntWalk.i64_in _ (by omega)]; omega
  by_cases h3 : n < 8 + V
  · have e3 : decide ((n : Int) < ((8 + V : Nat) : Int)) = true := decide_eq_true (by omega)
    have e4 : decide ((n : Int) < 8 + (V : Int)) = true := decide_eq_true (by omega)
    have HG := Lib.hid (HF.out 2 (by rw [HONE.out, if_neg (by omega), if_pos h3]))
    clear h3
    go_wp2_with fail
    refine bodyPost_ret (results_tmp3 rfl _ _) rfl ?_
    exact HG.out
  have e3 : decide ((n : Int) < ((8 + V : Nat) : Int)) = false := decide_eq_false (by omega)
  have e4 : decide ((n : Int) < 8 + (V : Int)) = false := decide_eq_false (by omega)
  have hone := HONE.out
  rw [if_neg (by omega), if_neg h3] at hone
  have HON := Lib.hid hone
  clear hone HONE
  have hcut := cut3 HB.out 8 V 8 (8 + (V : Int)) rfl (by omega) (by omega)
  have HCB := Lib.hid (fun w' (hb : Below w.heap.size w w') => bs_cut (HB.out.below hb) 8 V (by omega))
  have HLB : Hid (((l.drop 8).take V).length = V) := by show _ = _; rw [List.length_take, List.length_drop, HN.out]; omega
  go_upto_region 8 with fail
  have HO : Hid ((w.alloc (.cells #[] 5)).ownsRow w.heap.size 5 1 (.slice (some ⟨w.heap.size, 0, none⟩) 0 0) 0 []) := ⟨rfl, .inr ⟨w.heap.size, 0, _, rfl, Nat.le_refl _, heap_alloc_last _ _, Nat.le_refl _, by simp [maxLen], rfl, rfl⟩⟩
  have HBX : Hid (Below w.heap.size w (w.alloc (.cells #[] 5))) := Below.allocs _ _
  have HSX := Lib.hid (HCB.out _ HBX.out)
  have hlx := HSX.out.le
  have hmx := HSX.out.max
  go_upto_region 9 with (at_builtin; refine wpList_append_nx rfl _ _ 22 rfl (base := w.heap.size) Tryz.underlying22 info8b rfl (by omega) rfl HO.out rfl HSX.out (bytesV_one _) ⟨by omega, by omega⟩ HBX.out.size ?_)
  intro p5 c5 x5 ho5 hg5 _ _
  have hb5 := HBX.out.grown hg5 HBX.out.size (fun k hk => (HO.out.lt k hk).1)
  try rw [Nat.zero_add] at ho5
  try rw [List.nil_append] at ho5
  clear HO HSX HBX hg5 hlx hmx hcut
  have hs5 : Bs x5 p5 V c5 ((l.drop 8).take V) := by
    obtain ⟨p9, c9, e9, h9⟩ := own_sl ho5
    cases e9
    exact h9
  have HO5 := Lib.hid ho5
  have HB5 := Lib.hid hb5
  have HS5 := Lib.hid hs5
  have HSL := Lib.hid (HB.out.below hb5)
  clear ho5 hb5 hs5
  have hcut := cut0 HSL.out (8 + V) (8 + (V : Int)) (by omega) (by omega)
  generalize hbody : (l.drop 8).take V = body at *
  go_upto_region 9 with fail
  have HC1 : Hid (∀ w', Below x5.heap.size x5 w' → (convert 22 9 (.slice p (8 + V) c)).run Tryz.prog w' = .ok (.string (S (l.take (8 + V)))) w') := fun w' hb => bconv (bs_take (HSL.out.below hb) (by omega))
  have hcut2 := cut0 HSL.out (8 + V) ((8 + V : Nat) : Int) rfl (by omega)
  clear HSL
  refine wp_region_eager_x (Below x5.heap.size x5) [(0, true), (3, true), (4, true), (5, true), (6, true), (7, true), (1, false), (2, true), (8, true)] (by kernel_rfl) (by kernel_rfl) ?_ (eagerXOpen rfl ?_)
  · exact below_drew1 _ _
  have hy0 : Below x5.heap.size x5 x5.drew := below_drew1 _ _
  repeat (first
    | (apply wpEagerX_take; (· rfl); (· (intro w' hb'; have hk' := (fun w' hb => HC1.out w' hb) w' hb'; go_split_ands; go_simp; try with_reducible rfl)); (try simp only [Act.put, List.setIfInBounds_toArray, List.set_cons_zero, List.set_cons_succ]); (try refine eagerXOpen rfl ?_))
    | (first | (apply wpEagerX_take; (· rfl); (· (intro w' hb'; go_simp; try with_reducible rfl)); (try simp only [Act.put, List.setIfInBounds_toArray, List.set_cons_zero, List.set_cons_succ]); (try refine eagerXOpen rfl ?_)) | (refine wpEagerX_skip (by rfl) ?_; (try simp only [Act.put, List.setIfInBounds_toArray, List.set_cons_zero, List.set_cons_succ]); (try refine eagerXOpen rfl ?_)) | (refine wpEager_off (by rfl) ?_; (try simp only [Act.put, List.setIfInBounds_toArray, List.set_cons_zero, List.set_cons_succ]); (try refine eagerXOpen rfl ?_))))
  (refine wpEagerX_op (by rfl) (fun K hK => ?_); go_simp; (refine (rbytes_any p5 V c5 body x5.drew (HS5.out.below hy0) (by omega)).mono ?_; rintro e y ⟨q2, d2, rfl, ho, hb⟩; have HO := Lib.hid (own_bs ho); have HY := Lib.hid (hy0.trans hb); have hsub : ∀ x, Below y.heap.size y x → Below x5.heap.size x5 x := fun x hx => HY.out.trans (hx.mono HY.out.size); have hy1 : Below y.heap.size y y := Below.refl _ _; clear hb ho); refine Shut.out hK _ _ _ hsub (by assumption) ?_; clear hK K hsub; (try simp only [Act.put, List.setIfInBounds_toArray, List.set_cons_zero, List.set_cons_succ]); (try refine eagerXOpen rfl ?_))
  have HC2 : Hid (∀ w', Below y.heap.size y w' → (convert 22 9 (.slice q2 (frame body).length d2)).run Tryz.prog w' = .ok (.string (S (frame body))) w') := fun w' hb => bconv (HO.out.below hb)
  repeat (first
    | (apply wpEagerX_take; (· rfl); (· (intro w' hb'; have hk' := (fun w' hb => HC2.out w' hb) w' hb'; go_split_ands; go_simp; try with_reducible rfl)); (try simp only [Act.put, List.setIfInBounds_toArray, List.set_cons_zero, List.set_cons_succ]); (try refine eagerXOpen rfl ?_))
    | (first | (apply wpEagerX_take; (· rfl); (· (intro w' hb'; go_simp; try with_reducible rfl)); (try simp only [Act.put, List.setIfInBounds_toArray, List.set_cons_zero, List.set_cons_succ]); (try refine eagerXOpen rfl ?_)) | (refine wpEagerX_skip (by rfl) ?_; (try simp only [Act.put, List.setIfInBounds_toArray, List.set_cons_zero, List.set_cons_succ]); (try refine eagerXOpen rfl ?_)) | (refine wpEager_off (by rfl) ?_; (try simp only [Act.put, List.setIfInBounds_toArray, List.set_cons_zero, List.set_cons_succ]); (try refine eagerXOpen rfl ?_))))
  refine eagerXEnd ?_
  clear HC2 HC1 hcut hcut2 hy0 hy1
  have HOF := Lib.hid (own_touch HO5.out (Turns.of_below (S := fun _ => False) HY.out) (fun _ _ h => h))
  have HBF := Lib.hid (HB5.out.trans (HY.out.mono HB5.out.size))
  by_cases hq : frame body = l.take (8 + V)
  · have hqb : (frame body == List.take (8 + V) l) = true := beq_iff_eq.2 hq
    have HR : Hid (one l = (body, 8 + V, 0)) := by show _ = _; rw [HON.out, if_pos hq]
    clear hq
    rw [hqb]
    simp only [Bool.not_true]
    go_wp2_with fail
    refine bodyPost_ret (results_tmp3 rfl _ _) rfl ?_
    unfold OneP
    rw [HR.out]
    dsimp only
    rw [HLB.out]
    exact ⟨p5, c5, by rw [show ((8 + V : Nat) : Int) = 8 + (V : Int) by omega]; rfl, HOF.out, HBF.out⟩
  · have hqb : (frame body == List.take (8 + V) l) = false := beq_eq_false_iff_ne.2 hq
    have HG : Hid (OneP l w (.returned (.tuple #[.slice none 0 0, .int .i64 0, .int .i64 9])) y) := by
      show OneP _ _ _ _
      unfold OneP
      rw [HON.out, if_neg hq]
      exact ⟨none, 0, rfl, ⟨rfl, .inl ⟨rfl, rfl⟩⟩, HBF.out⟩
    clear hq
    rw [hqb]
    simp only [Bool.not_false]
    go_wp2_with fail
    refine bodyPost_ret (results_tmp3 rfl _ _) rfl ?_
    exact HG.out
end Go.Proofs.YtnejjfglkindjaaGreatDoor.Frm

namespace Go.Proofs.YtnejjfglkindjaaGreatDoor.Frm
open Go.RowKit Go.Mir Go.Mir.Parts Wr Cod Cut Rdr

theorem num_short {l : List UInt8} (h : l.length < 4) : (RD.new l).numV 4 = 0 ∧ (RD.new l).numS 4 = ⟨l, 0, some 2⟩ := by
  unfold RD.numV RD.numS RD.new
  rw [show fitsW 4 = true by decide]
  unfold RD.takeB RD.takeS
  dsimp only
  constructor
  · rw [if_neg (by omega)]; rfl
  · rw [if_neg (by simp), if_neg (by simp), if_pos (by omega)]
theorem num_full {l : List UInt8} (h : 4 ≤ l.length) : (RD.new l).numV 4 = beN (l.take 4) ∧ (RD.new l).numS 4 = ⟨l, 4, none⟩ := by
  have hk := take_in (l := l) (pos := 0) (m := 4) (by omega)
  unfold RD.numV RD.numS RD.new
  rw [show fitsW 4 = true by decide]
  exact ⟨by rw [show ((4 : Nat) : Int) = (4 : Int) from rfl] at hk; rw [hk.1]; rfl, by rw [show ((4 : Nat) : Int) = (4 : Int) from rfl] at hk; rw [hk.2]⟩
/-- what the second reader reads -/
def sec (l : List UInt8) (V : Nat) : RD := RD.new ((l.drop 4).take (min l.length (8 + V) - 4))
theorem sec_short {l : List UInt8} {V : Nat} (h4 : 4 ≤ l.length) (h : l.length < 8 + V) : (((sec l V).numS 4).takeS V true).err = 2 := by
  unfold sec
  rw [Nat.min_eq_left (by omega)]
  have hl : ((l.drop 4).take (l.length - 4)).length = l.length - 4 := by rw [List.length_take, List.length_drop]; omega
  by_cases h8 : l.length - 4 < 4
  · rw [(num_short (by rw [hl]; exact h8)).2]; rfl
  · rw [(num_full (by rw [hl]; omega)).2]
    unfold RD.takeS
    dsimp only
    rw [if_neg (by simp), if_neg (by simp), if_pos (by rw [hl]; omega)]
    rfl
theorem sec_full {l : List UInt8} {V : Nat} (h : 8 + V ≤ l.length) : (sec l V).numV 4 = beN ((l.drop 4).take 4) ∧ ((sec l V).numS 4).takeB V true = (l.drop 8).take V ∧ (((sec l V).numS 4).takeS V true).err = 0 := by
  unfold sec
  rw [Nat.min_eq_right (by omega)]
  have hl : ((l.drop 4).take (8 + V - 4)).length = 4 + V := by rw [List.length_take, List.length_drop]; omega
  obtain ⟨a, b⟩ := num_full (l := (l.drop 4).take (8 + V - 4)) (by rw [hl]; omega)
  have hk := take_in (l := (l.drop 4).take (8 + V - 4)) (pos := 4) (m := V) (by rw [hl]; omega)
  rw [a, b, hk.1, hk.2]
  refine ⟨by rw [List.take_take, Nat.min_eq_left (by omega)], ?_, rfl⟩
  rw [List.drop_take, List.drop_drop, List.take_take, Nat.min_eq_left (by omega)]
theorem crc_frame {l : List UInt8} {V : Nat} (h : 8 + V ≤ l.length) (hV : beN (l.take 4) = V) : (Crc.more 0#32 ([l.take 4, (l.drop 8).take V].flatten)).toNat = beN ((l.drop 4).take 4) ↔ frame ((l.drop 8).take V) = l.take (8 + V) := by
  have hlb : ((l.drop 8).take V).length = V := by rw [List.length_take, List.length_drop]; omega
  have h4 : (l.take 4).length = 4 := by rw [List.length_take]; omega
  have h44 : ((l.drop 4).take 4).length = 4 := by rw [List.length_take, List.length_drop]; omega
  have hbe : be V 4 = l.take 4 := by rw [← hV]; exact be_beN _ 4 h4 (by omega)
  have hsp : l.take (8 + V) = l.take 4 ++ (l.drop 4).take 4 ++ (l.drop 8).take V := by
    rw [show 8 + V = 4 + (4 + V) by omega, List.take_add, List.take_add, List.drop_drop, List.append_assoc]
  unfold frame
  rw [hlb, hbe, hsp]
  have hC := (Crc.more 0#32 ([l.take 4, (l.drop 8).take V].flatten)).isLt
  generalize (Crc.more 0#32 ([l.take 4, (l.drop 8).take V].flatten)).toNat = C at *
  constructor
  · intro hc
    rw [hc, be_beN _ 4 h44 (by omega)]
  · intro he
    have h1 := List.append_inj_left he (by simp [h4, h44, be_length])
    have h2 := List.append_inj_right h1 rfl
    rw [← h2, beN_be _ _ (by omega) (by omega)]
set_option maxRecDepth 100000 in
set_option maxHeartbeats 1600000 in
theorem one_any (p : Option Addr) (n c : Nat) (l : List UInt8) (w : World) (hE : EType w) (hB : Bs w p n c l) (hn : n ≤ 1099511627776) :
    Calls Tryz.prog 106 #[.slice p n c] w (OneP l w) := by
  have HB := Lib.hid hB
  have HN := Lib.hid hB.length
  have HE := Lib.hid hE
  have hle := hB.le
  have hmax := hB.max
  clear hB
  obtain ⟨m, hm⟩ : ∃ m, m = min n 4 := ⟨_, rfl⟩
  obtain ⟨V, hV⟩ : ∃ V, (RD.new (l.take m)).numV 4 = V := ⟨_, rfl⟩
  obtain ⟨s1, hs1⟩ : ∃ s1, (RD.new (l.take m)).numS 4 = s1 := ⟨_, rfl⟩
  have hV64 : V < 18446744073709551616 := by rw [← hV]; exact numV_lt _ _
  have HNO : Hid (¬ (1 ≤ V ∧ V ≤ 65536) → one l = ([], 0, (s1.fail 4).err) ∧ (s1.fail 4).err ≠ 0) := fun hno => by
    by_cases h4 : l.length < 4
    · have hml : l.take m = l := List.take_of_length_le (by rw [hm, HN.out]; have := HN.out; omega)
      rw [hml, (num_short h4).2] at hs1
      subst hs1
      exact ⟨by unfold one; rw [if_pos h4]; rfl, by simp [RD.fail, RD.err]⟩
    · have hml : m = 4 := by have := HN.out; omega
      have hl4 : 4 ≤ (l.take m).length := by rw [List.length_take]; omega
      rw [(num_full hl4).2] at hs1
      rw [(num_full hl4).1, hml, List.take_take] at hV
      subst hs1
      exact ⟨by unfold one; rw [if_neg h4, if_pos (by rw [show beN (l.take 4) = V from hV]; omega)]; rfl, by simp [RD.fail, RD.err]⟩
  have HYES : Hid (1 ≤ V ∧ V ≤ 65536 → 4 ≤ n ∧ V = beN (l.take 4) ∧ s1.err = 0) := fun hyes => by
    by_cases h4 : l.length < 4
    · have hml : l.take m = l := List.take_of_length_le (by rw [hm, HN.out]; have := HN.out; omega)
      rw [hml, (num_short h4).1] at hV
      omega
    · have hml : m = 4 := by have := HN.out; omega
      have hl4 : 4 ≤ (l.take m).length := by rw [List.length_take]; omega
      rw [(num_full hl4).2] at hs1
      rw [(num_full hl4).1, hml, List.take_take] at hV
      subst hs1
      exact ⟨by have := HN.out; omega, hV.symm, rfl⟩
  have HV := Lib.hid hV
  have HS1 := Lib.hid hs1
  clear hV hs1
  have hmi : (if (4 : Int) < (n : Int) then (4 : Int) else (n : Int)) = (m : Int) := by split <;> omega
  have hmi2 : (if 4 < n then (4 : Int) else (n : Int)) = (m : Int) := by split <;> omega
  have hcut := cut0 HB.out m (m : Int) rfl (by omega)
  have HG := Lib.hid hE.lt
  have HM := Lib.hid hm
  have HBM := Lib.hid (bs_take HB.out (k := m) (by omega))
  have hm4 : m ≤ 4 := by omega
  clear hE hm
  go_enter Tryz.func106, Tryz.ntmps106
  go_wp2_with fail
  refine (Rdr.new_any w p m c (l.take m) HBM.out (by omega)).mono ?_
  rintro e w1 ⟨rb, rfl, hr1, hb1⟩
  have HR1 := Lib.hid hr1
  have HB1 := Lib.hid hb1
  clear hr1 hb1 hcut hmi hmi2
  go_wp2_with fail
  refine (num_any _ HR1.out 4 (by omega)).mono ?_
  rintro e w2 ⟨rfl, hl2⟩
  have HB2 := Lib.hid (HB1.out.trans (hl2.turn.below HB1.out.size (fun i hi => by obtain ⟨v, bv, h⟩ := HR1.out; have := h.low; omega)))
  have HR2 := Lib.hid hl2.there
  clear hl2 HR1 HB1
  rw [HV.out]
  rw [HS1.out] at HR2
  have HE2 := Lib.hid (HE.out.below HB2.out HG.out)
  by_cases hfit : 1 ≤ V ∧ V ≤ 65536
  rotate_left
  · have HFT : Hid (decide (1 ≤ V ∧ V ≤ 65536) = false) := decide_eq_false hfit
    obtain ⟨ho, hz⟩ := HNO.out hfit
    have HO := Lib.hid ho
    have hz1 : ((s1.fail 4).err != 0) = true := by rw [bne_iff_ne]; exact hz
    clear hfit ho hz
    go_wp2_with fail
    refine (fits_any V hV64 w2).mono ?_
    rintro e w3 ⟨rfl, rfl⟩
    rw [HFT.out]
    go_wp2_with fail
    refine (fail_any _ HR2.out 4 (by omega)).mono ?_
    rintro e w3 ⟨rfl, hl3⟩
    have HB3 := Lib.hid (HB2.out.trans (hl3.turn.below HB2.out.size (fun i hi => by obtain ⟨v, bv, h⟩ := HR2.out; have := h.low; omega)))
    have HR3 := Lib.hid hl3.there
    have HE3 := Lib.hid (HE.out.below HB3.out HG.out)
    clear hl3
    go_wp2_with fail
    refine (err_any _ HR3.out HE3.out).mono ?_
    rintro e w4 ⟨rfl, hb4⟩
    have HB4 := Lib.hid (HB3.out.trans (hb4.mono HB3.out.size))
    clear hb4
    generalize (s1.fail 4).err = E at *
    go_wp2_with fail
    refine bodyPost_ret (results_tmp3 rfl _ _) rfl ?_
    unfold OneP
    rw [HO.out]
    exact ⟨none, 0, rfl, ⟨rfl, .inl ⟨rfl, rfl⟩⟩, HB4.out⟩
  have HFT : Hid (decide (1 ≤ V ∧ V ≤ 65536) = true) := decide_eq_true hfit
  obtain ⟨h4, hVe, hs0⟩ := HYES.out hfit
  have HVE := Lib.hid hVe
  have HS0 := Lib.hid hs0
  obtain ⟨hf1, hf2⟩ := hfit
  clear hVe hs0 HNO HYES
  go_wp2_with fail
  refine (fits_any V hV64 w2).mono ?_
  rintro e w3 ⟨rfl, rfl⟩
  rw [HFT.out]
  go_wp2_with fail
  refine (err_any _ HR2.out HE2.out).mono ?_
  rintro e w3 ⟨rfl, hb3⟩
  have HB3 := Lib.hid (HB2.out.trans (hb3.mono HB2.out.size))
  clear hb3 HR2 HB2 HE2 HS1 HV HFT
  rw [HS0.out]
  clear HS0
  obtain ⟨M, hM⟩ : ∃ M, M = min n (8 + V) := ⟨_, rfl⟩
  have hw8 : IntKind.i64.wrap (V : Int) = (V : Int) := by rw [IntWalk.i64_in _ (by omega)]
  have hw9 : IntKind.i64.wrap (8 + (V : Int)) = 8 + (V : Int) := by rw [IntWalk.i64_in _ (by omega)]
  have hmi : (if (8 : Int) + (V : Int) < (n : Int) then (8 : Int) + (V : Int) else (n : Int)) = (M : Int) := by split <;> omega
  have hmi2 : (if 8 + V < n then (8 : Int) + (V : Int) else (n : Int)) = (M : Int) := by split <;> omega
  have hM4 : 4 ≤ M ∧ M ≤ n := by omega
  have HSL := Lib.hid (HB.out.below HB3.out)
  have hcut := cut3 HSL.out 4 (M - 4) 4 (M : Int) rfl (by omega) (by omega)
  have HSM := Lib.hid (bs_cut HSL.out 4 (M - 4) (by omega))
  have HMM := Lib.hid hM
  clear hM
  have hsec : RD.new ((l.drop 4).take (M - 4)) = sec l V := by unfold sec; rw [HMM.out, HN.out]
  go_wp2_with fail
  refine (Rdr.new_any w3 _ _ _ _ HSM.out (by omega)).mono ?_
  rintro e w4 ⟨r4, rfl, hr4, hb4⟩
  rw [hsec] at hr4
  have HR4 := Lib.hid hr4
  have HB4 := Lib.hid (HB3.out.trans (hb4.mono HB3.out.size))
  have HX4 := Lib.hid hb4
  clear hr4 hb4 hcut hmi hmi2 hsec
  go_wp2_with fail
  refine (num_any _ HR4.out 4 (by omega)).mono ?_
  rintro e w5 ⟨rfl, hl5⟩
  have HL5 := Lib.hid hl5
  clear hl5
  go_wp2_with fail
  refine (bytes_any _ HL5.out.there (V : Int) (by omega)).mono ?_
  rintro e w6 ⟨p6, c6, rfl, ho6, hl6⟩
  have hl46 := HL5.out.trans hl6
  have HB6 := Lib.hid (HB4.out.trans (hl46.turn.below HB4.out.size (fun i hi => by obtain ⟨v, bv, h⟩ := HR4.out; have := h.low; have := HB3.out.size; omega)))
  have HR6 := Lib.hid hl46.there
  have ho6' := own_base (base' := w.heap.size) ho6 (fun k hk => by have h1 := (ho6.lt k hk).1; have h2 := HB4.out.size; have h3 := HL5.out.turn.size; omega)
  have HO6 := Lib.hid ho6'
  have HE6 := Lib.hid (HE.out.below HB6.out HG.out)
  clear ho6 hl6 hl46 HL5 HR4 ho6'
  go_wp2_with fail
  refine (err_any _ HR6.out HE6.out).mono ?_
  rintro e w7 ⟨rfl, hb7⟩
  have HB7 := Lib.hid (HB6.out.trans (hb7.mono HB6.out.size))
  have ho7 := own_touch HO6.out (Turns.of_below (S := fun _ => False) hb7) (fun _ _ h => h)
  have HO7 := Lib.hid ho7
  clear hb7 HR6 HO6 HE6 ho7
  by_cases hful : 8 + V ≤ n
  rotate_left
  · have hss := sec_short (l := l) (V := V) (by rw [HN.out]; exact h4) (by rw [HN.out]; omega)
    rw [hss]
    have HO : Hid (one l = ([], 0, 2)) := by
      show _ = _
      unfold one
      rw [if_neg (by rw [HN.out]; omega), if_neg (by rw [← HVE.out]; omega), if_pos (by rw [← HVE.out, HN.out]; omega)]
    clear hss hful
    generalize (sec l V).numV 4 = SUM at *
    generalize ((sec l V).numS 4).takeB (V : Int) true = BODY at *
    go_wp2_with fail
    refine bodyPost_ret (results_tmp3 rfl _ _) rfl ?_
    unfold OneP
    rw [HO.out]
    exact ⟨none, 0, rfl, ⟨rfl, .inl ⟨rfl, rfl⟩⟩, HB7.out⟩
  obtain ⟨f1, f2, f3⟩ := sec_full (l := l) (V := V) (by rw [HN.out]; exact hful)
  have HCF := Lib.hid (crc_frame (l := l) (V := V) (by rw [HN.out]; exact hful) HVE.out.symm)
  have HON : Hid (one l = if frame ((l.drop 8).take V) = l.take (8 + V) then ((l.drop 8).take V, 8 + V, 0) else ([], 0, 9)) := by
    show _ = _
    unfold one
    rw [if_neg (by rw [HN.out]; omega), if_neg (by rw [← HVE.out]; omega), if_neg (by rw [← HVE.out, HN.out]; omega), ← HVE.out]
  rw [f1, f2, f3]
  rw [f2] at HO7
  have HLB : Hid (((l.drop 8).take V).length = V) := by show _ = _; rw [List.length_take, List.length_drop, HN.out]; omega
  have hb4 := beN_lt_pow ((l.drop 4).take 4)
  rw [List.length_take, List.length_drop, HN.out, Nat.min_eq_left (by omega)] at hb4
  have HSL7 := Lib.hid (HB.out.below HB7.out)
  clear f1 f2 f3 HVE
  generalize hbody : (l.drop 8).take V = body at *
  generalize beN ((l.drop 4).take 4) = SUM at *
  have hw32 : IntKind.u32.wrap (SUM : Int) = (SUM : Int) := by rw [IntKind.wrap_u32]; omega
  have hcut := cut0 HSL7.out 4 4 rfl (by omega)
  rw [HLB.out] at HO7 ⊢
  have HP := Lib.hid (Pts.made2 (bs_take HSL7.out (k := 4) (by omega)) (own_bs HO7.out) 22 rfl)
  go_wp2_with fail
  refine (CrcW.of_any _ _ _ [l.take 4, body] _ HP.out).mono ?_
  rintro e w8 ⟨rfl, hb8⟩
  have hal : Below w7.heap.size w7 (w7.alloc (.cells #[.slice p 4 c, .slice p6 V c6] 22)) := Below.allocs _ _
  have hb78 := hal.trans (hb8.mono hal.size)
  have HB8 := Lib.hid (HB7.out.trans (hb78.mono HB7.out.size))
  have ho8 := own_touch HO7.out (Turns.of_below (S := fun _ => False) hb78) (fun _ _ h => h)
  have HO8 := Lib.hid ho8
  clear hb8 hal hb78 ho8 HO7 HP hcut HSL7
  obtain ⟨C, hC⟩ : ∃ C, (Crc.more 0#32 ([l.take 4, body].flatten)).toNat = C := ⟨_, rfl⟩
  rw [hC] at HCF ⊢
  clear hC
  by_cases hq : C = SUM
  · have hqb : ((C : Int) != (SUM : Int)) = false := by rw [bne_eq_false_iff_eq]; omega
    have HR : Hid (one l = (body, 8 + V, 0)) := by show _ = _; rw [HON.out, if_pos (HCF.out.1 hq)]
    clear hq HCF HON hbody
    go_wp2_with fail
    refine (size_any p6 V c6 (by omega) _).mono ?_
    rintro e w9 ⟨rfl, rfl⟩
    go_wp2_with fail
    refine bodyPost_ret (results_tmp3 rfl _ _) rfl ?_
    unfold OneP
    rw [HR.out]
    dsimp only
    rw [HLB.out]
    exact ⟨p6, c6, rfl, HO8.out, HB8.out⟩
  · have hqb : ((C : Int) != (SUM : Int)) = true := by rw [bne_iff_ne]; omega
    have HR : Hid (one l = ([], 0, 9)) := by show _ = _; rw [HON.out, if_neg (fun h => hq (HCF.out.2 h))]
    clear hq HCF HON hbody
    go_wp2_with fail
    refine bodyPost_ret (results_tmp3 rfl _ _) rfl ?_
    unfold OneP
    rw [HR.out]
    exact ⟨none, 0, rfl, ⟨rfl, .inl ⟨rfl, rfl⟩⟩, HB8.out⟩
end Go.Proofs.YtnejjfglkindjaaGreatDoor.Frm

namespace Go.Proofs.YtnejjfglkindjaaGreatDoor.Cut
open Go.RowKit Go.Mir Go.Mir.Parts

structure Ls (w : World) (base : Nat) (v : Value) (ls : List (List UInt8)) : Prop where
  all : ∃ hs : List Value, w.ownsRow base 22 1 v ls.length hs ∧ ∀ j (h : j < ls.length), ∃ q k, hs[j]? = some (.slice q ls[j].length k) ∧ Bs w q ls[j].length k ls[j] ∧ (∀ a, q = some a → 0 < ls[j].length → ¬ v.ownBlock = some a.block)
theorem Ls.nil (w : World) (base : Nat) : Ls w base (.slice none 0 0) [] := ⟨[], World.ownsRow_nil _ _ _ _, fun j h => by simp at h⟩
theorem Ls.below {w w' : World} {base : Nat} {v : Value} {ls : List (List UInt8)} (h : Ls w base v ls) (hb : Below w.heap.size w w') : Ls w' base v ls := by
  obtain ⟨hs, h1, h2⟩ := h.all
  exact ⟨hs, own_touch h1 (Turns.of_below (S := fun _ => False) hb) (fun _ _ h => h), fun j hj => by
    obtain ⟨q, k, a, b, c⟩ := h2 j hj
    exact ⟨q, k, a, b.below hb, c⟩⟩
theorem Ls.low {w : World} {base base' : Nat} {v : Value} {ls : List (List UInt8)} (h : Ls w base v ls) (hb : base' ≤ base) : Ls w base' v ls := by
  obtain ⟨hs, h1, h2⟩ := h.all
  exact ⟨hs, own_base h1 (fun k hk => by have := (h1.lt k hk).1; omega), h2⟩
theorem Ls.sl {w : World} {base : Nat} {v : Value} {ls : List (List UInt8)} (h : Ls w base v ls) : ∃ p c, v = .slice p ls.length c ∧ Pts w p ls.length c ls := by
  obtain ⟨hs, h1, h2⟩ := h.all
  obtain ⟨p, c, rfl, hS⟩ := own_sl h1
  refine ⟨p, c, rfl, rfl, hS.le, hS.max, hS.nil0, fun a ha j hj => ?_⟩
  obtain ⟨q, k, e1, e2, _⟩ := h2 j hj
  exact ⟨q, _, k, hS.cell a ha j _ e1, e2⟩
/-- a block of bytes is none of slices -/
theorem no_own {w : World} {base : Nat} {v : Value} {n : Nat} {hs : List Value} (h1 : w.ownsRow base 22 1 v n hs) {b2 m c : Nat} {q : Option Addr} {ys : List Value} (h2 : w.ownsRow b2 5 1 (.slice q m c) m ys) : ∀ a, q = some a → ¬ v.ownBlock = some a.block := fun a ha hv => by
  subst ha
  rcases h1.2 with ⟨rfl, _⟩ | ⟨g, cap, cur, rfl, _, hg, _⟩
  · cases hv
  · rcases h2.2 with ⟨hx, _⟩ | ⟨g2, cap2, cur2, hx, _, hg2, _⟩
    · cases hx
    · cases hx
      simp only [Value.ownBlock, Option.some.injEq] at hv
      rw [← hv, hg] at hg2
      injection hg2 with e1
      injection e1 with _ e2
      revert e2
      decide
/-- one more: behind an append onto it -/
theorem Ls.push {w w0 w1 : World} {base : Nat} {v : Value} {ls : List (List UInt8)} {hs : List Value} {p' : Option Addr} {c' : Nat} {q : Option Addr} {k : Nat} {x : List UInt8}
    (h1 : w.ownsRow base 22 1 v ls.length hs) (h2 : ∀ j (h : j < ls.length), ∃ q k, hs[j]? = some (.slice q ls[j].length k) ∧ Bs w q ls[j].length k ls[j] ∧ (∀ a, q = some a → 0 < ls[j].length → ¬ v.ownBlock = some a.block))
    (hb : Below w.heap.size w w0) (hx : Bs w q x.length k x) (hq : ∀ a, q = some a → 0 < x.length → ¬ v.ownBlock = some a.block)
    (ho : w1.ownsRow base 22 1 (.slice p' (ls.length + 1) c') (ls.length + 1) (hs ++ [.slice q x.length k])) (hg : w0.grownBy w1 v.ownBlock)
    (hn : ∀ i, (Value.slice p' (ls.length + 1) c').ownBlock = some i → v.ownBlock = some i ∨ i = w0.heap.size) : Ls w1 base (.slice p' (ls.length + 1) c') (ls ++ [x]) := by
  have hl : hs.length = ls.length := by have := h1.1; simpa using this
  have ht : Turns (fun i => v.ownBlock = some i) w0 w1 := Turns.grown hg (fun k hk => hk)
  have key : ∀ (q : Option Addr) (k : Nat) (y : List UInt8), Bs w q y.length k y → (∀ a, q = some a → 0 < y.length → ¬ v.ownBlock = some a.block) → Bs w1 q y.length k y ∧ (∀ a, q = some a → 0 < y.length → ¬ (Value.slice p' (ls.length + 1) c').ownBlock = some a.block) := fun q k y hB hne => by
    by_cases hy : 0 < y.length
    · obtain ⟨b, o, rfl⟩ := hB.addr hy (by omega)
      have hlt : b < w.heap.size := block_lt_of_cell (Bs.byte hB (j := 0) hy)
      refine ⟨(hB.below hb).touch ht (fun a ha _ => hne a ha hy), fun a ha hy he => ?_⟩
      rcases hn _ he with h | h
      · exact hne a ha hy h
      · obtain rfl := Option.some.inj ha
        have := hb.size
        simp only at h
        omega
    · have hy0 : y = [] := List.length_eq_zero_iff.1 (by omega)
      subst hy0
      exact ⟨⟨rfl, hB.le, hB.max, hB.nil0, fun a ha j u hu => by simp [bytesV] at hu⟩, fun a ha h => by simp at h⟩
  refine ⟨_, by rw [List.length_append]; exact ho, fun j hj => ?_⟩
  rw [List.length_append, List.length_singleton] at hj
  by_cases hj2 : j < ls.length
  · obtain ⟨q1, k1, e1, e2, e3⟩ := h2 j hj2
    have := key q1 k1 _ e2 e3
    refine ⟨q1, k1, ?_, ?_, ?_⟩
    · rw [List.getElem?_append_left (by omega), List.getElem_append_left hj2]; exact e1
    · rw [List.getElem_append_left hj2]; exact this.1
    · rw [List.getElem_append_left hj2]; exact this.2
  · obtain rfl : j = ls.length := by omega
    have := key q k x hx hq
    refine ⟨q, k, ?_, ?_, ?_⟩
    · rw [List.getElem?_append_right (by omega), hl, Nat.sub_self]
      simp
    · simpa using this.1
    · simpa using this.2
/-- the header that is appended, as a slice of one -/
theorem hdr_sl (w : World) (v : Value) (t : TypeId) (b : Nat) (hb : b = w.heap.size) : Sl (w.alloc (.cells #[v] t)) (some ⟨b, 0, none⟩) 1 1 1 [v] :=
  ⟨rfl, Nat.le_refl _, by omega, fun h => (by cases h), fun a ha j u hu => by
    obtain rfl := Option.some.inj ha
    rw [add_none, hb, cell_alloc_new]
    cases j with
    | zero => simpa using hu
    | succ j => simp at hu⟩
/-- the same, where each element is the call's own, too -/
structure LsO (w : World) (base : Nat) (v : Value) (ls : List (List UInt8)) : Prop where
  all : ∃ hs : List Value, w.ownsRow base 22 1 v ls.length hs ∧ ∀ j (h : j < ls.length), ∃ q k, hs[j]? = some (.slice q ls[j].length k) ∧ w.ownsRow base 5 1 (.slice q ls[j].length k) ls[j].length (bytesV ls[j])
theorem LsO.nil (w : World) (base : Nat) : LsO w base (.slice none 0 0) [] := ⟨[], World.ownsRow_nil _ _ _ _, fun j h => by simp at h⟩
theorem LsO.ls {w : World} {base : Nat} {v : Value} {ls : List (List UInt8)} (h : LsO w base v ls) : Ls w base v ls := by
  obtain ⟨hs, h1, h2⟩ := h.all
  exact ⟨hs, h1, fun j hj => by
    obtain ⟨q, k, a, b⟩ := h2 j hj
    exact ⟨q, k, a, own_bs b, fun ad ha _ => no_own h1 b ad ha⟩⟩
theorem LsO.below {w w' : World} {base : Nat} {v : Value} {ls : List (List UInt8)} (h : LsO w base v ls) (hb : Below w.heap.size w w') : LsO w' base v ls := by
  obtain ⟨hs, h1, h2⟩ := h.all
  exact ⟨hs, own_touch h1 (Turns.of_below (S := fun _ => False) hb) (fun _ _ h => h), fun j hj => by
    obtain ⟨q, k, a, b⟩ := h2 j hj
    exact ⟨q, k, a, own_touch b (Turns.of_below (S := fun _ => False) hb) (fun _ _ h => h)⟩⟩
theorem LsO.push {w w1 : World} {base : Nat} {v v' : Value} {ls : List (List UInt8)} {hs : List Value} {q : Option Addr} {k : Nat} {x : List UInt8} {tmp : Obj}
    (h1 : w.ownsRow base 22 1 v ls.length hs) (h2 : ∀ j (h : j < ls.length), ∃ q k, hs[j]? = some (.slice q ls[j].length k) ∧ w.ownsRow base 5 1 (.slice q ls[j].length k) ls[j].length (bytesV ls[j]))
    (hx : w.ownsRow base 5 1 (.slice q x.length k) x.length (bytesV x))
    (ho : w1.ownsRow base 22 1 v' (ls.length + 1) (hs ++ [.slice q x.length k])) (hg : (w.alloc tmp).grownBy w1 v.ownBlock) : LsO w1 base v' (ls ++ [x]) := by
  have hl : hs.length = ls.length := by have := h1.1; simpa using this
  have ht : Turns (fun i => v.ownBlock = some i) w w1 := (Turns.of_below (Below.allocs w tmp)).trans (Turns.grown hg (fun k hk => hk)) (fun _ _ h => h)
  have key : ∀ (q : Option Addr) (k : Nat) (y : List UInt8), w.ownsRow base 5 1 (.slice q y.length k) y.length (bytesV y) → w1.ownsRow base 5 1 (.slice q y.length k) y.length (bytesV y) := fun q k y hy =>
    own_touch hy ht (fun i hi he => by
      cases q with
      | none => simp [Value.ownBlock] at hi
      | some a => simp only [Value.ownBlock, Option.some.injEq] at hi; exact no_own h1 hy a rfl (by rw [hi]; exact he))
  refine ⟨_, by rw [List.length_append]; exact ho, fun j hj => ?_⟩
  rw [List.length_append, List.length_singleton] at hj
  by_cases hj2 : j < ls.length
  · obtain ⟨q1, k1, e1, e2⟩ := h2 j hj2
    refine ⟨q1, k1, ?_, ?_⟩
    · rw [List.getElem?_append_left (by omega), List.getElem_append_left hj2]; exact e1
    · rw [List.getElem_append_left hj2]; exact key q1 k1 _ e2
  · obtain rfl : j = ls.length := by omega
    refine ⟨q, k, ?_, ?_⟩
    · rw [List.getElem?_append_right (by omega), hl, Nat.sub_self]
      simp
    · simpa using key q k x hx
theorem LsO.set {w : World} {base : Nat} {v : Value} {ls : List (List UInt8)} {B : Nat} {t : TypeId} {u : Value} (h : LsO w base v ls) (hb : w.heap[B]? = some (.cells #[u] t (0, 0))) (h1 : t ≠ 22) (h2 : t ≠ 5) (u' : Value) : LsO (w.setCell ⟨B, 0, none⟩ u') base v ls := by
  have ht : Turns (fun i => i = B) w (w.setCell ⟨B, 0, none⟩ u') := (Turns.refl (fun i => i = B) w).setCell (p := ⟨B, 0, none⟩) (fun _ => rfl) u'
  have ne : ∀ {n size e : Nat} {x : Value} {vs : List Value}, w.ownsRow base e size x n vs → t ≠ e → ∀ i, x.ownBlock = some i → ¬ i = B := fun {n size e x vs} ho hte i hi he => by
    subst he
    rcases ho.2 with ⟨rfl, _⟩ | ⟨g, cap, cur, rfl, _, hg, _⟩
    · cases hi
    · simp only [Value.ownBlock, Option.some.injEq] at hi
      rw [hi, hb] at hg
      injection hg with e1
      injection e1 with _ e2
      exact hte e2
  obtain ⟨hs, a, b⟩ := h.all
  exact ⟨hs, own_touch a ht (ne a h1), fun j hj => by
    obtain ⟨q, k, c, d⟩ := b j hj
    exact ⟨q, k, c, own_touch d ht (ne d h2)⟩⟩
/-- rows of unlike types lie apart -/
theorem own_apart {w : World} {b1 b2 e1 e2 s1 s2 n1 n2 : Nat} {v1 v2 : Value} {x1 x2 : List Value} (h1 : w.ownsRow b1 e1 s1 v1 n1 x1) (h2 : w.ownsRow b2 e2 s2 v2 n2 x2) (he : e1 ≠ e2) : ∀ k, v1.ownBlock = some k → ¬ v2.ownBlock = some k := fun k hk hk2 => by
  rcases h1.2 with ⟨rfl, _⟩ | ⟨g, cap, cur, rfl, _, hg, _⟩
  · cases hk
  · rcases h2.2 with ⟨rfl, _⟩ | ⟨g2, cap2, cur2, rfl, _, hg2, _⟩
    · cases hk2
    · simp only [Value.ownBlock, Option.some.injEq] at hk hk2
      rw [hk] at hg
      rw [hk2, hg] at hg2
      injection hg2 with a
      injection a with _ b
      exact he b
/-- the same, where the elements lay ahead (in w0) -/
structure LsA (w0 w : World) (base : Nat) (v : Value) (ls : List (List UInt8)) : Prop where
  all : ∃ hs : List Value, w.ownsRow base 22 1 v ls.length hs ∧ ∀ j (h : j < ls.length), ∃ q k, hs[j]? = some (.slice q ls[j].length k) ∧ Bs w0 q ls[j].length k ls[j]
theorem LsA.nil (w0 w : World) (base : Nat) : LsA w0 w base (.slice none 0 0) [] := ⟨[], World.ownsRow_nil _ _ _ _, fun j h => by simp at h⟩
theorem LsA.touch {S : Nat → Prop} {w0 w w' : World} {base : Nat} {v : Value} {ls : List (List UInt8)} (h : LsA w0 w base v ls) (ht : Turns S w w') (hv : ∀ k, v.ownBlock = some k → ¬ S k) : LsA w0 w' base v ls := by
  obtain ⟨hs, h1, h2⟩ := h.all
  exact ⟨hs, own_touch h1 ht hv, h2⟩
theorem LsA.below {w0 w w' : World} {base : Nat} {v : Value} {ls : List (List UInt8)} (h : LsA w0 w base v ls) (hb : Below w.heap.size w w') : LsA w0 w' base v ls := h.touch (Turns.of_below (S := fun _ => False) hb) (fun _ _ h => h)
theorem LsA.push {w0 w w1 : World} {base : Nat} {v v' : Value} {ls : List (List UInt8)} {hs : List Value} {q : Option Addr} {k : Nat} {x : List UInt8}
    (h1 : w.ownsRow base 22 1 v ls.length hs) (h2 : ∀ j (h : j < ls.length), ∃ q k, hs[j]? = some (.slice q ls[j].length k) ∧ Bs w0 q ls[j].length k ls[j]) (hx : Bs w0 q x.length k x)
    (ho : w1.ownsRow base 22 1 v' (ls.length + 1) (hs ++ [.slice q x.length k])) : LsA w0 w1 base v' (ls ++ [x]) := by
  have hl : hs.length = ls.length := by have := h1.1; simpa using this
  refine ⟨_, by rw [List.length_append]; exact ho, fun j hj => ?_⟩
  rw [List.length_append, List.length_singleton] at hj
  by_cases hj2 : j < ls.length
  · obtain ⟨q1, k1, e1, e2⟩ := h2 j hj2
    refine ⟨q1, k1, ?_, ?_⟩
    · rw [List.getElem?_append_left (by omega), List.getElem_append_left hj2]; exact e1
    · rw [List.getElem_append_left hj2]; exact e2
  · obtain rfl : j = ls.length := by omega
    refine ⟨q, k, ?_, ?_⟩
    · rw [List.getElem?_append_right (by omega), hl, Nat.sub_self]
      simp
    · simpa using hx
theorem LsA.sl {w0 w : World} {base : Nat} {v : Value} {ls : List (List UInt8)} (h : LsA w0 w base v ls) (hb : Below w0.heap.size w0 w) : ∃ p c, v = .slice p ls.length c ∧ Pts w p ls.length c ls := by
  obtain ⟨hs, h1, h2⟩ := h.all
  obtain ⟨p, c, rfl, hS⟩ := own_sl h1
  refine ⟨p, c, rfl, rfl, hS.le, hS.max, hS.nil0, fun a ha j hj => ?_⟩
  obtain ⟨q, k, e1, e2⟩ := h2 j hj
  exact ⟨q, _, k, hS.cell a ha j _ e1, e2.below hb⟩
end Go.Proofs.YtnejjfglkindjaaGreatDoor.Cut

namespace Go.Proofs.YtnejjfglkindjaaGreatDoor.Frm
open Go.RowKit Go.Mir Go.Mir.Parts Wr Cod Cut

theorem one_ok {l : List UInt8} (h : (one l).2.2 = 0) : 9 ≤ (one l).2.1 ∧ (one l).2.1 ≤ l.length ∧ (one l).2.1 = 8 + (one l).1.length ∧ frame (one l).1 = l.take (one l).2.1 ∧ 1 ≤ (one l).1.length ∧ (one l).1.length ≤ 65536 := by
  unfold one at h ⊢
  split at h
  · simp at h
  rename_i h1
  rw [if_neg h1]
  split at h
  · simp at h
  rename_i h2
  rw [if_neg h2]
  split at h
  · simp at h
  rename_i h3
  rw [if_neg h3]
  split at h
  · rename_i h4
    rw [if_pos h4]
    have hl : ((l.drop 8).take (Rdr.beN (l.take 4))).length = Rdr.beN (l.take 4) := by rw [List.length_take, List.length_drop]; omega
    refine ⟨by dsimp only; omega, by dsimp only; omega, by dsimp only; rw [hl], h4, by dsimp only; omega, by dsimp only; omega⟩
  · simp at h
theorem one_bad {l : List UInt8} (h : ¬ (one l).2.2 = 0) : (one l).1 = [] ∧ (one l).2.1 = 0 := by
  unfold one at h ⊢
  split
  · exact ⟨rfl, rfl⟩
  rename_i h1
  rw [if_neg h1] at h
  split
  · exact ⟨rfl, rfl⟩
  rename_i h2
  rw [if_neg h2] at h
  split
  · exact ⟨rfl, rfl⟩
  rename_i h3
  rw [if_neg h3] at h
  split
  · rename_i h4
    rw [if_pos h4] at h
    simp at h
  · exact ⟨rfl, rfl⟩
theorem one_err (l : List UInt8) : (one l).2.2 = 0 ∨ (one l).2.2 = 2 ∨ (one l).2.2 = 4 ∨ (one l).2.2 = 9 := by
  unfold one
  split
  · simp
  split
  · simp
  split
  · simp
  split <;> simp
def scan (l : List UInt8) : List (List UInt8) × Nat :=
  if _h : (one l).2.2 = 0 then ((one l).1 :: (scan (l.drop (one l).2.1)).1, (one l).2.1 + (scan (l.drop (one l).2.1)).2) else ([], 0)
termination_by l.length
decreasing_by all_goals (have := one_ok _h; rw [List.length_drop]; omega)
theorem scan_ok {l : List UInt8} (h : (one l).2.2 = 0) : scan l = ((one l).1 :: (scan (l.drop (one l).2.1)).1, (one l).2.1 + (scan (l.drop (one l).2.1)).2) := by rw [scan, dif_pos h]
theorem scan_no {l : List UInt8} (h : ¬ (one l).2.2 = 0) : scan l = ([], 0) := by rw [scan, dif_neg h]
/-- as far as one has come -/
def sumF (pre : List (List UInt8)) : Nat := (pre.map fun x => 8 + x.length).sum
theorem sumF_snoc (pre : List (List UInt8)) (x : List UInt8) : sumF (pre ++ [x]) = sumF pre + (8 + x.length) := by simp [sumF]
def At (l : List UInt8) (pre : List (List UInt8)) (at_ : Nat) : Prop := at_ ≤ l.length ∧ (9 * pre.length ≤ at_ ∧ at_ = sumF pre) ∧ scan l = (pre ++ (scan (l.drop at_)).1, at_ + (scan (l.drop at_)).2)
theorem At.zero (l : List UInt8) : At l [] 0 := ⟨by omega, ⟨by simp, rfl⟩, by simp⟩
theorem At.next {l : List UInt8} {pre : List (List UInt8)} {k : Nat} (h : At l pre k) (ho : (one (l.drop k)).2.2 = 0) : At l (pre ++ [(one (l.drop k)).1]) (k + (one (l.drop k)).2.1) := by
  obtain ⟨h1, ⟨h2, h2'⟩, h3⟩ := h
  obtain ⟨o1, o2, o3, _⟩ := one_ok ho
  rw [List.length_drop] at o2
  refine ⟨by omega, ⟨by rw [List.length_append, List.length_singleton]; omega, by rw [sumF_snoc, ← h2', o3]⟩, ?_⟩
  rw [h3, scan_ok ho, List.drop_drop]
  simp only [List.append_assoc, List.singleton_append, Prod.mk.injEq, true_and]
  omega
theorem At.end {l : List UInt8} {pre : List (List UInt8)} {k : Nat} (h : At l pre k) (ho : ¬ (one (l.drop k)).2.2 = 0) : scan l = (pre, k) := by
  rw [h.2.2, scan_no ho]; simp
theorem At.last {l : List UInt8} {pre : List (List UInt8)} {k k1 : Nat} (h : At l pre k) (ho : ¬ (one (l.drop k)).2.2 = 0) (h1 : At l pre k1) : scan l = (pre, k1) := by
  have he := h.end ho
  have h3 := h1.2.2
  rw [he] at h3
  by_cases hb : (one (l.drop k1)).2.2 = 0
  · rw [scan_ok hb] at h3
    have := congrArg List.length (congrArg Prod.fst h3)
    simp at this
  · exact h1.end hb
def RScanO (l : List UInt8) (w : World) (e : Ending) (w' : World) : Prop := ∃ v, e = .returned (.tuple #[v, .int .i64 ((scan l).2 : Int)]) ∧ LsO w' w.heap.size v (scan l).1 ∧ Below w.heap.size w w'
def RScanP (l : List UInt8) (w : World) (e : Ending) (w' : World) : Prop := ∃ v, e = .returned (.tuple #[v, .int .i64 ((scan l).2 : Int)]) ∧ Ls w' w.heap.size v (scan l).1 ∧ Below w.heap.size w w'
set_option maxRecDepth 100000 in
set_option maxHeartbeats 1600000 in
theorem rscanO_any (p : Option Addr) (n c : Nat) (l : List UInt8) (w : World) (hB : Bs w p n c l) (hn : n ≤ 1000000) :
    Calls Tryz.prog 102 #[.slice p n c] w (RScanO l w) := by
  have HB := Lib.hid hB
  have HN := Lib.hid hB.length
  have hle := hB.le
  have hmax := hB.max
  clear hB
  go_enter Tryz.func102, Tryz.ntmps102
  go_wp2_with fail
  go_loopw [4, 5] (fun x j wr => ∃ (k : Nat) (pre : List (List UInt8)), j = .int .i64 k ∧ LsO wr w.heap.size x pre ∧ At l pre k ∧ Below w.heap.size w wr) (fun _ j _ => n - (intOf j).toNat)
  case atStart => exact ⟨0, [], rfl, LsO.nil _ _, At.zero l, Below.refl _ _⟩
  case round =>
    obtain ⟨k, pre, rfl, hls, hat, hbl⟩ := hrel
    have hk : k ≤ n := by rw [← HN.out]; exact hat.1
    have hpre : 9 * pre.length ≤ k := hat.2.1.1
    have HAT := Lib.hid hat
    have HLS := Lib.hid hls
    have HBL := Lib.hid hbl
    have hcut := cutR (HB.out.below hbl) k (k : Int) rfl hk
    have hone := rone_any _ _ _ _ wr (bs_drop (HB.out.below hbl) k hk) (by omega)
    have HONE := Lib.hid hone
    clear hat hls hbl hone
    go_wp2_with fail
    refine HONE.out.mono ?_
    rintro e w1 ⟨p1, c1, rfl, ho1, hb1⟩
    have HB1 := Lib.hid (HBL.out.trans (hb1.mono HBL.out.size))
    have HL1 := Lib.hid (HLS.out.below hb1)
    have HO1 := Lib.hid ho1
    have HBW := Lib.hid hb1
    clear ho1 hb1 HONE HLS hcut
    obtain ⟨body, m, ev, hoe⟩ : ∃ body m ev, one (l.drop k) = (body, m, ev) := ⟨_, _, _, rfl⟩
    rw [hoe] at HO1 ⊢
    have HOE := Lib.hid hoe
    clear hoe
    by_cases hev : ev = 0
    · subst hev
      have hok := one_ok (l := l.drop k) (by rw [HOE.out])
      have hnx := HAT.out.next (by rw [HOE.out])
      rw [HOE.out] at hok hnx
      rw [List.length_drop, HN.out] at hok
      dsimp only at hok hnx
      obtain ⟨ok1, ok2, ok3, _⟩ := hok
      clear ok3
      have hw : IntKind.i64.wrap ((k : Int) + (m : Int)) = ((k + m : Nat) : Int) := by rw [IntWalk.i64_in _ (by omega)]; omega
      have hw2 : IntKind.i64.wrap ((k : Int) + (m : Int)) = (k : Int) + (m : Int) := by rw [IntWalk.i64_in _ (by omega)]
      obtain ⟨hs, hh1, hh2⟩ := HL1.out.all
      have HH1 := Lib.hid hh1
      have HH2 := Lib.hid hh2
      have HNX := Lib.hid hnx
      clear hh1 hh2 hnx HOE HAT
      have hbd : Hid (pre.length + 1 ≤ 9223372036854775807 ∧ (pre.length + 1) * 24 ≤ 140737488355328) := by show _ ∧ _; omega
      have hal : Below w1.heap.size w1 (w1.alloc (.cells #[.slice p1 body.length c1] 22)) := Below.allocs _ _
      have HAL := Lib.hid hal
      have hnew := hdr_sl w1 (.slice p1 body.length c1) 22 w1.heap.size rfl
      have HNEW := Lib.hid hnew
      have HOW := Lib.hid (own_touch HH1.out (Turns.of_below (S := fun _ => False) hal) (fun _ _ h => h))
      clear hal hnew
      go_upto_region 7 with (at_builtin; refine wpList_append_nx rfl _ _ 31 rfl (base := w.heap.size) Tryz.underlying31 infoS rfl (by omega) rfl HOW.out rfl HNEW.out (by simp [Value.oneCell']) hbd.out (by have := HB1.out.size; have := HAL.out.size; omega) ?_)
      intro p' c' w2 hown hg hnx _
      have hpush := LsO.push HH1.out HH2.out (own_base HO1.out (fun i hi => by have := (HO1.out.lt i hi).1; have := HBL.out.size; omega)) hown hg
      have hb2 := (HB1.out.trans (HAL.out.mono HB1.out.size)).grown hg (by have := HB1.out.size; have := HAL.out.size; omega) (fun i hi => (HH1.out.lt i hi).1)
      have HPU := Lib.hid hpush
      have HB2 := Lib.hid hb2
      clear hpush hb2 hown hg hnx HOW HNEW HAL hbd HH1 HH2 HL1 HO1 HB1
      go_wp2_with fail
      go_roundw
      case rel => exact ⟨k + m, _, by go_num, HPU.out, HNX.out, HB2.out⟩
      case measure => simp [intOf]; omega
    · have hz : (ev != 0) = true := by rw [bne_iff_ne]; exact hev
      have hend := HAT.out.end (by rw [HOE.out]; exact hev)
      have HEND := Lib.hid hend
      clear hend hev HOE HAT
      go_wp2_with fail
      go_ret2
      exact ⟨_, by rw [HEND.out]; rfl, by rw [HEND.out]; exact HL1.out, HB1.out⟩
theorem rscan_any (p : Option Addr) (n c : Nat) (l : List UInt8) (w : World) (hB : Bs w p n c l) (hn : n ≤ 1000000) :
    Calls Tryz.prog 102 #[.slice p n c] w (RScanP l w) :=
  (rscanO_any p n c l w hB hn).mono fun _ _ ⟨v, h1, h2, h3⟩ => ⟨v, h1, h2.ls, h3⟩
end Go.Proofs.YtnejjfglkindjaaGreatDoor.Frm

namespace Go.Mir
open Go.RowKit

theorem grown_of_below {A B : World} (h : Below A.heap.size A B) (row : Option Nat) : A.grownBy B row := ⟨h.os, h.tape, h.output, h.size, fun k hk _ => h.block k hk⟩
theorem ownFrom_grow {β : Type} {b : Nat} {I : β → World → Prop} (h : OwnFrom b I) {s : β} {A B : World} (hs : I s A) (hb : Below A.heap.size A B) : I s B :=
  h s A B none hs (grown_of_below hb none) (fun r e => by cases e)
/-- what an iterator keeps to -/
def SeqG {α : Type} (P : Program) (n : Nat) (gf : Nat) (lb : Array Value) (encs : α → Array Value) (T : Nat → Prop) (G : List α → α → World → Prop) (S Sp : List α → Prop) (w : World) : Prop :=
  ∀ (l : Nat) (J Jx : List α → World → Prop) (W : World), Below w.heap.size w W → (∀ s A B, J s A → Below A.heap.size A B → J s B) → (∀ s A B, Jx s A → Below A.heap.size A B → Jx s B) →
    (∀ pre x W1, J pre W1 → G pre x W1 → YieldAt Fence.wide (n - 1) P l (encs x) W1 fun e W' => (e = .returned (.bool true) ∧ J (pre ++ [x]) W' ∧ Turns T W1 W') ∨ (e = .returned (.bool false) ∧ Jx (pre ++ [x]) W')) →
    J [] W → CallsIn Fence.wide n P gf (#[.func (.yield l) #[] #[]] ++ lb) W fun e W' => (∃ v, e = .returned v) ∧ ((∃ xs, S xs ∧ J xs W') ∨ ∃ pre, Sp pre ∧ Jx pre W')
/-- how a round may be left -/
def roundEnd {α : Type} (B : Nat) (T : Nat → Prop) (I : List α → World → Prop) (Ix : Code → List α → World → Prop) (xs : List α) (W : World) : Exit → Act → World → Prop
  | .normal, _, W' => KeepsFrom B W W' ∧ Turns T W W' ∧ I xs W'
  | .ret, _, W' => KeepsFrom B W W' ∧ Ix .ret xs W'
  | .exit id, _, W' => KeepsFrom B W W' ∧ Ix (.exit id) xs W'
  | .goto t, _, W' => KeepsFrom B W W' ∧ Ix (.goto t) xs W'
  | .panic _, _, _ => False
  | .outgrown, _, _ => False
/-- what the loop has laid -/
structure LoopAt (b : Nat) (r : Loop) (W : World) : Prop where
  loop : W.heap[b + 1]? = some (.loop r)
  calls : W.heap[b]? = some (.deferred (some []))
theorem LoopAt.lt {b : Nat} {r : Loop} {W : World} (h : LoopAt b r W) : b + 1 < W.heap.size := (Array.getElem?_eq_some_iff.1 h.loop).1
theorem LoopAt.keep {b : Nat} {r : Loop} {W W' : World} (h : LoopAt b r W) (hk : KeepsFrom b W W') : LoopAt b r W' := ⟨hk.same _ _ (by omega) h.loop rfl, hk.same _ _ (Nat.le_refl _) h.calls rfl⟩
theorem LoopAt.set {b : Nat} {r : Loop} {W : World} (h : LoopAt b r W) (r' : Loop) : LoopAt b r' (W.putObj (b + 1) (.loop r')) := ⟨World.putObj_heap_same h.lt, (World.putObj_heap_other (by omega)).trans h.calls⟩
theorem LoopAt.below {b : Nat} {r : Loop} {W W' : World} (h : LoopAt b r W) (hb : Below W.heap.size W W') : LoopAt b r W' := ⟨Below.keepOld hb h.loop, Below.keepOld hb h.calls⟩
variable {P : Program}
theorem rangeG {α : Type} {g : Operand} {ps : Array Tmp} {assign body : Code} {Q : Exit → Act → World → Prop} {a : Act} {w w0 : World} {n : Nat} (_h1 : 1 ≤ n)
    {gf : Nat} {lb : Array Value} (hg : a.eval g = .func (.func gf) #[] lb) (eg : ∀ args w, (callFunc gf args).run P w = .ok (.enter gf args) w)
    {encs : α → Array Value} {T : Nat → Prop} {G : List α → α → World → Prop} {S Sp : List α → Prop} (hseq : SeqG P (n - 1) gf lb encs T G S Sp w0) (hT : ∀ k, w.heap.size ≤ k → T k) (hb0 : Below w0.heap.size w0 w) (hps : ∀ x, (encs x).size = ps.size)
    (hG : OwnFrom w.heap.size (fun (s : List α × α) W => G s.1 s.2 W)) (I : List α → World → Prop) (Ix : Code → List α → World → Prop) (hI : OwnFrom w.heap.size I) (hIx : ∀ c, OwnFrom w.heap.size (Ix c)) (h0 : I [] w) (a₁ : α → Act)
    (hassign : ∀ (l : Nat) (x : α) (W : World) (K : Act → World → Prop), K (a₁ x) W →
      assign.wpIn (Fence.wide.inRound l) (n - 1 - 1) P (Exit.then K (fun _ _ _ => False)) { tmps := (ps.zip (encs x)).foldl (fun t (p, v) => t.setIfInBounds p v) a.tmps, defers := [] } W)
    (hbody : ∀ (l : Nat) (pre : List α) (x : α) (W : World), I pre W → G pre x W → body.wpIn (Fence.wide.inRound l) (n - 1 - 1) P (roundEnd w.heap.size T I Ix (pre ++ [x]) W) (a₁ x) W)
    (hdone : ∀ (D : Nat) (xs : List α) (W : World), w.heap.size ≤ D → S xs → I xs W → W.heap[D]? = some (.deferred (some [])) → Q .normal { a with defers := { target := .collected D, args := #[] } :: a.defers } W)
    (hstop : ∀ (D : Nat) (c : Code) (pre : List α) (W : World), w.heap.size ≤ D → Sp pre → Ix c pre W → W.heap[D]? = some (.deferred (some [])) → c.wpIn Fence.wide n P Q { a with defers := { target := .collected D, args := #[] } :: a.defers } W) :
    (Code.rangeFunc g ps assign body).wpIn Fence.wide n P Q a w := by
  refine wpIn_rangeFunc fun fn hfn => ?_
  obtain ⟨b, hb⟩ : ∃ b, w.heap.size = b := ⟨_, rfl⟩
  let rec' : LoopState → Option Code → Loop := fun st pe => { state := st, pending := pe, fn, tmps := a.tmps, params := ps, assign, body, defers := b }
  obtain ⟨W1, hW1⟩ : ∃ W1, W1 = (w.alloc (.deferred (some []))).alloc (.loop (rec' .ready none)) := ⟨_, rfl⟩
  have hsz : W1.heap.size = b + 2 := by rw [hW1]; simp [hb]
  have hL1 : LoopAt b (rec' .ready none) W1 := by
    rw [hW1, ← hb]
    exact ⟨by have := World.alloc_heap_new (w.alloc (.deferred (some []))) (.loop (rec' .ready none)); rwa [World.size_alloc] at this, (Below.heap_alloc _ _ _ (by simp)).trans (World.alloc_heap_new w _)⟩
  have hww : Below w.heap.size w W1 := by rw [hW1]; exact ((Below.refl _ w).alloc (Nat.le_refl _) _).alloc (by simp) _
  rw [hb] at hI hIx hG hT hbody hdone hstop
  have turn : ∀ {s : List α} {W : World} {r : Loop} (r' : Loop), I s W → LoopAt b r W → I s (W.putObj (b + 1) (.loop r')) := fun r' hi hl => hI.putObj _ hi (by omega) hl.loop rfl
  have turnB : ∀ {W : World} {r : Loop} (r' : Loop), LoopAt b r W → Turns T W (W.putObj (b + 1) (.loop r')) := fun {W} {r} r' hl =>
    Turns.grown (grownBy_putObj' W (b + 1) _) (fun k e => by cases e; exact hT _ (by omega))
  refine ⟨b + 1, [{ target := .collected b, args := #[] }], W1, { target := .fn (.func gf) lb, args := #[.func (.yield (b + 1)) #[] #[]] }, W1, gf, #[.func (.yield (b + 1)) #[] #[]] ++ lb, W1, ?_, ?_, fun _ _ => trivial, ?_, fun h => by simp [Fence.wide] at h, ?_⟩
  · have := run_enterLoop_outer (P := P) (w := w) fn a.tmps ps assign body
    rw [hb] at this
    rw [hW1]
    exact this
  · simp only [resolve, hg]
    simp [go_sem]
  · simp [invoke, go_sem, eg]
  refine (hseq (b + 1) (fun pre W => I pre W ∧ LoopAt b (rec' .ready none) W) (fun pre W => ∃ c, Ix c pre W ∧ LoopAt b (rec' .done (some c)) W) W1
    (hb0.trans (hww.mono hb0.size)) (fun s A B hs hbl => ⟨ownFrom_grow hI hs.1 hbl, hs.2.below hbl⟩) (fun s A B ⟨c, hc, hl⟩ hbl => ⟨c, ownFrom_grow (hIx c) hc hbl, hl.below hbl⟩) ?_ ⟨ownFrom_grow hI h0 hww, hL1⟩).mono ?_
  · rintro pre x W ⟨hi, hl⟩ hx
    refine ⟨fn, _, assign, body, run_yield (P := P) (args := encs x) hl.loop (hps x), roundIn_of_wpIn hfn (hassign _ x W _ ⟨_, run_beginRound hl.loop rfl, ?_⟩)⟩
    have hx2 : G pre x (W.putObj (b + 1) (.loop { rec' .ready none with state := .busy })) := hG.putObj (s := (pre, x)) _ hx (by omega) hl.loop rfl
    refine wpIn_mono (hbody _ pre x _ (turn _ hi hl) hx2) ?_
    have hl2 := hl.set { rec' .ready none with state := .busy }
    have leave : ∀ (c : Code) (W3 : World), KeepsFrom b (W.putObj (b + 1) (.loop { rec' .ready none with state := .busy })) W3 → Ix c (pre ++ [x]) W3 →
        ∃ v w', (Instr.endRound (b + 1) (some c)).run P W3 = .ok v w' ∧ (fun (e : Ending) (W' : World) => (e = .returned (.bool true) ∧ (I (pre ++ [x]) W' ∧ LoopAt b (rec' .ready none) W') ∧ Turns T W W') ∨ (e = .returned (.bool false) ∧ ∃ c, Ix c (pre ++ [x]) W' ∧ LoopAt b (rec' .done (some c)) W')) (.returned v) w' := fun c W3 hk hc => by
      have hl3 := hl2.keep hk
      exact ⟨_, _, run_endRound (P := P) (some c) hl3.loop, .inr ⟨rfl, c, (hIx c).putObj _ hc (by omega) hl3.loop rfl, hl3.set _⟩⟩
    rintro e a3 W3 hp
    cases e with
    | normal =>
      have hl3 := hl2.keep hp.1
      exact ⟨_, _, run_endRound (P := P) none hl3.loop, .inl ⟨rfl, ⟨turn _ hp.2.2 hl3, hl3.set _⟩, ((turnB _ hl).trans hp.2.1 (fun _ _ h => h)).trans (turnB _ hl3) (fun _ _ h => h)⟩⟩
    | ret => exact leave .ret W3 hp.1 hp.2
    | exit id => exact leave (.exit id) W3 hp.1 hp.2
    | goto t => exact leave (.goto t) W3 hp.1 hp.2
    | panic ch => exact hp.elim
    | outgrown => exact hp.elim
  · rintro e W2 ⟨⟨v, rfl⟩, ⟨xs, hS, hi, hl⟩ | ⟨pre, hS, c, hi, hl⟩⟩
    · exact ⟨none, _, run_endLoop (P := P) hl.loop (by simp [rec']), hdone _ xs _ (Nat.le_refl _) hS (turn _ hi hl) (hl.set _).calls⟩
    · exact ⟨some c, _, run_endLoop (P := P) hl.loop (by simp [rec']), hstop _ c pre _ (Nat.le_refl _) hS ((hIx c).putObj _ hi (by omega) hl.loop rfl) (hl.set _).calls⟩
/-- the activation behind the assignment to the loop's variables -/
def setAll (a : Act) (l : List (Nat × Value)) : Act := { tmps := l.foldl (fun t p => t.setIfInBounds p.1 p.2) a.tmps, defers := [] }
theorem rangeS {α : Type} {g : Operand} {ps : Array Tmp} {assign body : Code} {Q : Exit → Act → World → Prop} {a : Act} {w w0 : World} {n : Nat} (h1 : 1 ≤ n)
    {gf : Nat} {lb : Array Value} (hg : a.eval g = .func (.func gf) #[] lb) (eg : ∀ args w, (callFunc gf args).run P w = .ok (.enter gf args) w)
    {encs : α → Array Value} {T : Nat → Prop} {G : List α → α → World → Prop} {S Sp : List α → Prop} (hseq : SeqG P (n - 1) gf lb encs T G S Sp w0) (hT : ∀ k, w.heap.size ≤ k → T k) (hb0 : Below w0.heap.size w0 w) (hps : ∀ x, (encs x).size = ps.size)
    (hG : OwnFrom w.heap.size (fun (s : List α × α) W => G s.1 s.2 W)) (I : List α → World → Prop) (Ix : Code → List α → World → Prop) (hI : OwnFrom w.heap.size I) (hIx : ∀ c, OwnFrom w.heap.size (Ix c)) (h0 : I [] w) (sets : α → List (Nat × Value))
    (hassign : ∀ (l : Nat) (x : α) (W : World) (K : Act → World → Prop), K (setAll a (sets x)) W →
      assign.wpIn (Fence.wide.inRound l) (n - 1 - 1) P (Exit.then K (fun _ _ _ => False)) { tmps := (ps.zip (encs x)).foldl (fun t (p, v) => t.setIfInBounds p v) a.tmps, defers := [] } W)
    (hbody : ∀ (l : Nat) (pre : List α) (x : α) (W : World), I pre W → G pre x W → body.wpIn (Fence.wide.inRound l) (n - 1 - 1) P (roundEnd w.heap.size T I Ix (pre ++ [x]) W) (setAll a (sets x)) W)
    (hdone : ∀ (D : Nat) (xs : List α) (W : World), w.heap.size ≤ D → S xs → I xs W → W.heap[D]? = some (.deferred (some [])) → Q .normal { a with defers := { target := .collected D, args := #[] } :: a.defers } W)
    (hstop : ∀ (D : Nat) (c : Code) (pre : List α) (W : World), w.heap.size ≤ D → Sp pre → Ix c pre W → W.heap[D]? = some (.deferred (some [])) → c.wpIn Fence.wide n P Q { a with defers := { target := .collected D, args := #[] } :: a.defers } W) :
    (Code.rangeFunc g ps assign body).wpIn Fence.wide n P Q a w :=
  rangeG h1 hg eg hseq hT hb0 hps hG I Ix hI hIx h0 (fun x => setAll a (sets x)) hassign hbody hdone hstop
end Go.Mir

namespace Go.Proofs.YtnejjfglkindjaaGreatDoor.Frm
open Go.RowKit Go.Mir Go.Mir.Parts Go.Shelf Wr Cod Cut Rdr
attribute [local go_sem] Oper.semAt_some

theorem all_any (p : Option Addr) (n c : Nat) (w : World) :
    Calls Tryz.prog 126 #[.slice p n c] w fun e w' => e = .returned (.func (.func 131) #[] #[.pointer (some ⟨w.heap.size, 0, none⟩)]) ∧ w' = w.alloc (.cells #[.slice p n c] 22) := by
  go_enter Tryz.func126, Tryz.ntmps126
  go_wp2_with fail
  go_ret
  exact ⟨rfl, rfl⟩
structure FX where
  at_ : Nat
  p : Option Addr
  c : Nat
  body : List UInt8
def FX.enc (x : FX) : Array Value := #[.int .i64 (x.at_ : Int), .slice x.p x.body.length x.c]
def bodies (xs : List FX) : List (List UInt8) := xs.map (·.body)
theorem bodies_snoc (xs : List FX) (x : FX) : bodies (xs ++ [x]) = bodies xs ++ [x.body] := by simp [bodies]
def FG (l : List UInt8) (n₀ : Nat) (pre : List FX) (x : FX) (W : World) : Prop := (At l (bodies pre) x.at_ ∧ (one (l.drop x.at_)).2.2 = 0 ∧ x.body = (one (l.drop x.at_)).1) ∧ W.ownsRow n₀ 5 1 (.slice x.p x.body.length x.c) x.body.length (bytesV x.body)
theorem own_own {β : Type} (n₀ e size : Nat) (v : β → Value) (k : β → Nat) (f : β → List Value) : Own (fun s W => W.ownsRow n₀ e size (v s) (k s) (f s)) := by
  rintro s X Y row hr hg hrow
  refine hr.kept hg ?_
  rcases hr.2 with ⟨h0, _⟩ | ⟨g, cap, cur, hv, _, hgb, _⟩
  · exact .inl (by rw [h0]; rfl)
  · refine .inr fun e' => ?_
    rw [hv] at e'
    obtain ⟨o, ho, hc⟩ := hrow g (by simpa [Value.ownBlock] using e'.symm)
    rw [hgb] at ho; cases ho; cases hc
theorem fg_own (l : List UInt8) (n₀ B : Nat) : OwnFrom B (fun (s : List FX × FX) W => FG l n₀ s.1 s.2 W) :=
  fun s A C row hs hg hr => ⟨hs.1, (own_own (β := List FX × FX) n₀ 5 1 (fun s => .slice s.2.p s.2.body.length s.2.c) (fun s => s.2.body.length) (fun s => bytesV s.2.body)) s A C row hs.2 hg (fun r e => (hr r e).2)⟩
def FT (n₀ Bn : Nat) (k : Nat) : Prop := n₀ ≤ k ∧ ¬ k = Bn
set_option maxRecDepth 100000 in
set_option maxHeartbeats 2000000 in
theorem all1_seq (m : Nat) (hm : 1 ≤ m) (Bn n₀ b₀ : Nat) (p : Option Addr) (n c : Nat) (l : List UInt8) (w : World) (hE : EType w) (hE0 : 0 < n₀) (hn0 : b₀ ≤ w.heap.size) (hc : w.cell? ⟨Bn, 0, none⟩ = some (.slice p n c)) (hB : ∀ W', Turns (FT n₀ Bn) w W' → Bs W' p n c l) (hn : n ≤ 1000000) :
    SeqG Tryz.prog m 131 #[.pointer (some ⟨Bn, 0, none⟩)] FX.enc (FT n₀ Bn) (FG l b₀) (fun xs => ∃ k, At l (bodies xs) k ∧ ¬ (one (l.drop k)).2.2 = 0) (fun _ => True) w := by
  intro y J Jx W hW hJ hJx hY h0
  have HB := Lib.hid hB
  have hb0 := hB w (Turns.refl _ _)
  have HN := Lib.hid hb0.length
  have hle := hb0.le
  have hmax := hb0.max
  have HE := Lib.hid hE
  have HW := Lib.hid (Turns.of_below (S := FT n₀ Bn) hW)
  have HY := Lib.hid hY
  clear hB hb0 hE hW hY
  refine callsIn_of_wp Tryz.func131 rfl trivial ?_ rfl
  simp only [Tryz.ntmps131, List.size_toArray, List.length_cons, List.length_nil, Nat.reduceAdd, Nat.reduceSub, Array.replicate_succ, Array.replicate_zero, List.push_toArray, List.append_toArray, List.nil_append, List.cons_append]
  gi_wp2
  gi_loopw [3] (fun i wr => ∃ (k : Nat) (pre : List FX), i = .int .i64 k ∧ At l (bodies pre) k ∧ J pre wr ∧ Turns (FT n₀ Bn) w wr) (fun i _ => n - (intOf i).toNat)
  case atStart => exact ⟨0, [], rfl, At.zero l, h0, HW.out⟩
  case round =>
    obtain ⟨k, pre, rfl, hat, hJp, htu⟩ := hrel
    have hk : k ≤ n := by rw [← HN.out]; exact hat.1
    have HAT := Lib.hid hat
    have HJ := Lib.hid hJp
    have HT := Lib.hid htu
    have hcc := htu.cell hc (fun h => h.2 rfl)
    have hbs := HB.out wr htu
    have hcut := cutR hbs k (k : Int) rfl hk
    have hE1 : EType wr := htu.cell HE.out (fun h => Nat.not_le_of_lt hE0 h.1)
    have hone := one_any _ _ _ _ wr hE1 (bs_drop hbs k hk) (by omega)
    have HONE := Lib.hid hone
    clear hat hJp htu hbs hone hE1
    gi_wp2_with fail
    refine ⟨trivial, ?_⟩
    refine (callsIn_wide.2 HONE.out).mono ?_
    rintro e w1 ⟨p1, c1, rfl, ho1, hb1⟩
    have HJ1 := Lib.hid (hJ _ _ _ HJ.out hb1)
    have HT1 := Lib.hid (HT.out.trans (Turns.of_below (S := FT n₀ Bn) hb1) (fun _ _ h => h))
    have HSZ := Lib.hid HT.out.size
    have HO1 := Lib.hid ho1
    obtain ⟨body, mm, ev, hoe⟩ : ∃ body mm ev, one (l.drop k) = (body, mm, ev) := ⟨_, _, _, rfl⟩
    clear ho1 hb1 HONE HJ HT hcut
    rw [hoe] at HO1 ⊢
    have HOE := Lib.hid hoe
    clear hoe
    by_cases hev : ev = 0
    · subst hev
      have hok := one_ok (l := l.drop k) (by rw [HOE.out])
      have hnx := HAT.out.next (by rw [HOE.out])
      rw [HOE.out] at hok hnx
      rw [List.length_drop, HN.out] at hok
      dsimp only at hok hnx
      have HOK := Lib.hid hok
      obtain ⟨ok1, ok2, _⟩ := hok
      have hx : FG l b₀ pre ⟨k, p1, c1, body⟩ w1 := ⟨⟨HAT.out, by rw [HOE.out], by rw [HOE.out]⟩, own_base HO1.out (fun i hi => by have h1 := (HO1.out.lt i hi).1; have h2 := HSZ.out; omega)⟩
      obtain ⟨fn, tmps, assign, bod, hy, hR⟩ := HY.out pre ⟨k, p1, c1, body⟩ w1 HJ1.out hx
      dsimp only [FX.enc] at hy
      have HR := Lib.hid hR
      have HNX := Lib.hid hnx
      have hw : IntKind.i64.wrap ((k : Int) + (mm : Int)) = ((k + mm : Nat) : Int) := by rw [IntWalk.i64_in _ (by omega)]; omega
      clear hnx HOE HAT hR hx
      gi_wp2_with fail
      refine HR.out.mono ?_
      rintro e w2 (⟨rfl, hJ2, hk2⟩ | ⟨rfl, hJ2⟩)
      · have HT2 := Lib.hid (HT1.out.trans hk2 (fun _ _ h => h))
        have HJ2 := Lib.hid hJ2
        clear hJ2 hk2 HJ1 HT1 HR
        gi_wp2
        go_roundw
        case rel => exact ⟨k + mm, _, by go_num, by rw [bodies_snoc]; exact HNX.out, HJ2.out, HT2.out⟩
        case measure => simp [intOf]; omega
      · have HJ2 := Lib.hid hJ2
        clear hJ2 HJ1 HT1 HR
        gi_wp2
        refine bodyPost_ret (results_none rfl _ _ _) rfl ?_
        exact ⟨⟨_, rfl⟩, .inr ⟨_, trivial, HJ2.out⟩⟩
    · have hz : (ev != 0) = true := by rw [bne_iff_ne]; exact hev
      have HS : Hid (∃ k, At l (bodies pre) k ∧ ¬ (one (l.drop k)).2.2 = 0) := ⟨k, HAT.out, by rw [HOE.out]; exact hev⟩
      clear hev HOE HAT
      gi_wp2_with fail
      refine ⟨fun _ h => (by cases h), ?_⟩
      gi_wp2
      refine bodyPost_ret (results_none rfl _ _ _) rfl ?_
      exact ⟨⟨_, rfl⟩, .inl ⟨pre, HS.out, HJ1.out⟩⟩
end Go.Proofs.YtnejjfglkindjaaGreatDoor.Frm

namespace Go.Proofs.YtnejjfglkindjaaGreatDoor.Frm
open Go.RowKit Go.Mir Go.Mir.Parts Go.Shelf Wr Cod Cut Rdr
attribute [local go_sem] Oper.semAt_some

theorem sl_kept {w w' : World} {p : Option Addr} {n c size : Nat} {vs : List Value} (h : Sl w p n c size vs) {row : Option Nat} (hg : w.grownBy w' row) (hr : ∀ r, row = some r → ∃ o : Obj, w.heap[r]? = some o ∧ o.isCells = false) : Sl w' p n c size vs :=
  ⟨h.len, h.le, h.max, h.nil0, fun a ha j u hu => cell_kept (h.cell a ha j u hu) hg hr⟩
theorem own_kept {w w' : World} {base e size n : Nat} {v : Value} {vs : List Value} (h : w.ownsRow base e size v n vs) {row : Option Nat} (hg : w.grownBy w' row) (hr : ∀ r, row = some r → ∃ o : Obj, w.heap[r]? = some o ∧ o.isCells = false) : w'.ownsRow base e size v n vs :=
  (own_own (β := Unit) base e size (fun _ => v) (fun _ => n) (fun _ => vs)) () _ _ row h hg hr
theorem ls_kept {w w' : World} {base : Nat} {v : Value} {ls : List (List UInt8)} (h : LsO w base v ls) {row : Option Nat} (hg : w.grownBy w' row) (hr : ∀ r, row = some r → ∃ o : Obj, w.heap[r]? = some o ∧ o.isCells = false) : LsO w' base v ls := by
  obtain ⟨hs, h1, h2⟩ := h.all
  refine ⟨hs, own_kept h1 hg hr, fun j hj => ?_⟩
  obtain ⟨q, k, a, b⟩ := h2 j hj
  exact ⟨q, k, a, own_kept b hg hr⟩
theorem boxed_kept {w w' : World} {B : Nat} {t : TypeId} {v : Value} (h : Boxed w B t v) {row : Option Nat} (hg : w.grownBy w' row) (hr : ∀ r, row = some r → ∃ o : Obj, w.heap[r]? = some o ∧ o.isCells = false) : Boxed w' B t v :=
  h.kept hg (fun e => by
    obtain ⟨o, ho, hc⟩ := hr B e.symm
    rw [show w.heap[B]? = _ from h] at ho; cases ho; cases hc)
structure SI (w : World) (l : List UInt8) (pre : List FX) (W : World) : Prop where
  out : ∃ v, Boxed W w.heap.size 31 v ∧ LsO W (w.heap.size + 3) v (bodies pre)
  stop : ∃ k : Nat, Boxed W (w.heap.size + 1) 3 (.int .i64 (k : Int)) ∧ At l (bodies pre) k
  low : Below w.heap.size w W
  big : w.heap.size + 3 ≤ W.heap.size
theorem si_own (w : World) (l : List UInt8) (B : Nat) (hB : w.heap.size ≤ B) : OwnFrom B (SI w l) := fun s A C row hs hg hr => by
  have hr' : ∀ r, row = some r → ∃ o : Obj, A.heap[r]? = some o ∧ o.isCells = false := fun r e => (hr r e).2
  obtain ⟨⟨v, b1, l1⟩, ⟨k, b2, a2⟩, lo, bg⟩ := hs
  exact ⟨⟨v, boxed_kept b1 hg hr', ls_kept l1 hg hr'⟩, ⟨k, boxed_kept b2 hg hr', a2⟩, lo.grown hg lo.size (fun k e => by have := (hr k e).1; omega), Nat.le_trans bg hg.size⟩
def ScanO (l : List UInt8) (w : World) (e : Ending) (w' : World) : Prop := ∃ v, e = .returned (.tuple #[v, .int .i64 ((scan l).2 : Int)]) ∧ LsO w' w.heap.size v (scan l).1 ∧ Below w.heap.size w w'
theorem LsO.low {w : World} {base base' : Nat} {v : Value} {ls : List (List UInt8)} (h : LsO w base v ls) (hb : base' ≤ base) : LsO w base' v ls := by
  obtain ⟨hs, h1, h2⟩ := h.all
  exact ⟨hs, own_base h1 (fun k hk => by have := (h1.lt k hk).1; omega), fun j hj => by
    obtain ⟨q, k, a, b⟩ := h2 j hj
    exact ⟨q, k, a, own_base b (fun i hi => by have := (b.lt i hi).1; omega)⟩⟩
def ScanP (l : List UInt8) (w : World) (e : Ending) (w' : World) : Prop := ∃ v, e = .returned (.tuple #[v, .int .i64 ((scan l).2 : Int)]) ∧ Ls w' w.heap.size v (scan l).1 ∧ Below w.heap.size w w'
set_option maxRecDepth 100000 in
set_option maxHeartbeats 2000000 in
theorem scanO_any (p : Option Addr) (n c : Nat) (l : List UInt8) (w : World) (hE : EType w) (hB : Bs w p n c l) (hpb : 0 < n → ∀ a, p = some a → a.block < w.heap.size) (hn : n ≤ 1000000) :
    Calls Tryz.prog 112 #[.slice p n c] w (ScanO l w) := by
  have HB := Lib.hid hB
  have HN := Lib.hid hB.length
  have hle := hB.le
  have hmax := hB.max
  refine (callsIn_wide (n := 9)).1 ?_
  refine callsIn_of_wp_marks Tryz.func112 rfl trivial ?_ rfl
  simp only [Tryz.ntmps112, List.size_toArray, List.length_cons, List.length_nil, Nat.reduceAdd, Nat.reduceSub, Array.replicate_succ, Array.replicate_zero, List.push_toArray, List.append_toArray, List.nil_append, List.cons_append]
  gi_wp2_with (refine ⟨trivial, ?_⟩; gi_at_call 126; refine (callsIn_wide.2 (all_any p n c _)).mono ?_; rintro e w' ⟨rfl, rfl⟩)
  have bO := Boxed.new w 31 (.slice none 0 0)
  have bE := Boxed.new (w.alloc (.cells #[.slice none 0 0] 31)) 3 (.int .i64 0)
  have bN := Boxed.new ((w.alloc (.cells #[.slice none 0 0] 31)).alloc (.cells #[.int .i64 0] 3)) 22 (.slice p n c)
  rw [World.size_alloc] at bE
  rw [World.size_alloc, World.size_alloc] at bN
  have hB0 : Below w.heap.size w (((w.alloc (.cells #[.slice none 0 0] 31)).alloc (.cells #[.int .i64 0] 3)).alloc (.cells #[.slice p n c] 22)) := (((Below.refl _ w).alloc (Nat.le_refl _) _).alloc (by simp) _).alloc (by simp; omega) _
  have hs0 : (((w.alloc (.cells #[.slice none 0 0] 31)).alloc (.cells #[.int .i64 0] 3)).alloc (.cells #[.slice p n c] 22)).heap.size = w.heap.size + 3 := by simp
  have bO := (bO.alloc (.cells #[.int .i64 0] 3)).alloc (.cells #[.slice p n c] 22)
  have bE := bE.alloc (.cells #[.slice p n c] 22)
  generalize ((w.alloc (.cells #[.slice none 0 0] 31)).alloc (.cells #[.int .i64 0] 3)).alloc (.cells #[.slice p n c] 22) = W0 at *
  have hE0 := hE.lt
  have hseq := all1_seq 8 (by omega) (w.heap.size + 2) w.heap.size (w.heap.size + 3) p n c l W0 (hE.below hB0 hE0) hE0 (by omega) bN.cell (fun W' ht => bs_touch (hB.below hB0) ht (fun h0 a ha h => by have := hpb h0 a ha; have := h.1; omega)) hn
  have HSI : Hid (SI w l [] W0) := ⟨⟨_, bO, LsO.nil _ _⟩, ⟨0, bE, At.zero l⟩, hB0, by omega⟩
  refine rangeG (by omega) rfl (enters_of Tryz.func131 (by kernel_rfl) rfl) hseq (fun k hk => ⟨by omega, by omega⟩) (Below.refl _ _) (fun _ => rfl) (fg_own l _ _) (SI w l) (fun _ _ _ => False) (si_own w l _ (by omega)) (fun _ _ _ _ _ hs _ _ => hs) HSI.out
    (fun x => { tmps := #[.slice p n c, undef, .slice none 0 0, .int .i64 0, .pointer (some ⟨w.heap.size, 0, none⟩), .pointer (some ⟨w.heap.size + 1, 0, none⟩), .int .i64 (x.at_ : Int), .slice x.p x.body.length x.c, .slice p n c, .func (.func 131) #[] #[.pointer (some ⟨w.heap.size + 1 + 1, 0, none⟩)], .int .i64 (x.at_ : Int), .slice x.p x.body.length x.c, undef, undef, undef, undef, undef, undef, undef, undef, undef, undef], defers := [] }) ?assign ?body ?done ?stop
  case assign =>
    intro l x W K hK
    unfold FX.enc
    gi_wp2
    exact hK
  case body =>
    rintro L pre x W ⟨⟨v, b1, l1⟩, ⟨k, b2, a2⟩, lo, hWs⟩ ⟨⟨g1, g2, g3⟩, g4⟩
    have hc1 := b1.cell
    have hf1 := b1.frozen
    have hc2 := b2.cell
    have hf2 := b2.frozen
    obtain ⟨hs, h1, h2⟩ := l1.all
    obtain ⟨i0, hi, hz0, hz1, hz2⟩ := info_parts infoS
    have hpl : 9 * (bodies pre).length ≤ x.at_ ∧ x.at_ ≤ n := by have := g1.1; have := g1.2.1.1; have := hB.length; omega
    have hnx := g1.next g2
    rw [← g3, ← bodies_snoc] at hnx
    have hsz1 := one_ok g2
    rw [← g3] at hsz1
    obtain ⟨sz1, sz2, sz3, _⟩ := hsz1
    rw [sz3] at hnx
    rw [List.length_drop, hB.length] at sz2
    have hxl : x.body.length ≤ 1000000 := by omega
    have HNX := Lib.hid hnx
    clear hnx g1 g2 g3
    gi_wp2_with (first
      | (gi_at_builtin; refine wpListIn_append_own _ rfl _ _ 31 rfl (w.heap.size + 3) 22 i0 (.slice none 0 0) 1 24 Tryz.underlying31 hi hz0 hz1 hz2 rfl (by decide) _ _ _ rfl (h1.alloc _) ⟨W.heap.size, 0, none⟩ 1 1 [.slice x.p x.body.length x.c] rfl rfl (cell_one_new _ _ _) (by simp [Value.oneCell']) (by simp [maxLen]; omega) (by omega) (by simp; omega) ?_; intro v' w1 hown' hgrow _; obtain ⟨g', cap', rfl⟩ := ownsRow_succ hown'; obtain ⟨hv1, hv2, hr2, hk2, hb2⟩ := b1.appended (by decide) (own_base (base' := w.heap.size) h1 (fun i hi => by have := (h1.lt i hi).1; omega)) lo.size (Nat.le_refl _) (own_base (base' := w.heap.size) hown' (fun i hi => by have := (hown'.lt i hi).1; omega)) hgrow; have hc1 := hv1.cell; have hf1 := hv1.frozen; have bE2 := ((b2.alloc _).kept hgrow (b2.not_row (by decide) h1)).other (show w.heap.size + 1 ≠ w.heap.size by omega) (.slice (some ⟨g', 0, none⟩) ((bodies pre).length + 1) cap'); have hc3 := bE2.cell; have hf3 := bE2.frozen)
      | (refine ⟨trivial, ?_⟩; gi_at_call 116; refine (CallsIn.inRound L (callsIn_wide.2 (size_any _ _ _ (by omega) _))).mono ?_; rintro e w' ⟨rfl, rfl⟩))
    have hpu := (LsO.push h1 h2 g4 hown' hgrow).set hv1 (by decide) (by decide) (.slice (some ⟨g', 0, none⟩) ((bodies pre).length + 1) cap')
    rw [← bodies_snoc] at hpu
    have hcast : (x.at_ : Int) + (8 + (x.body.length : Int)) = ((x.at_ + (8 + x.body.length) : Nat) : Int) := by omega
    rw [hcast]
    refine ⟨(hk2.from _).trans ((KeepsOthers.setCell _ _ _).from _), ?_, ⟨_, hv2.other (by omega) _, hpu.set bE2 (by decide) (by decide) _⟩, ⟨_, bE2.set _, HNX.out⟩, (lo.trans hb2).setCell (p := ⟨w.heap.size + 1, 0, none⟩) (by simp) _, ?_⟩
    rotate_left
    · have := hgrow.size; simp [World.setCell] at this ⊢; omega
    exact (((Turns.of_below (Below.allocs W _)).trans (Turns.grown hgrow (fun i hi => ⟨by have := (h1.lt i hi).1; omega, by have := (h1.lt i hi).1; omega⟩)) (fun _ _ h => h)).setCell (p := ⟨w.heap.size, 0, none⟩) (fun _ => ⟨Nat.le_refl _, by simp⟩) _).setCell (p := ⟨w.heap.size + 1, 0, none⟩) (fun _ => ⟨by simp, by simp⟩) _
  case done =>
    rintro D xs W hD ⟨k, hk, hk2⟩ ⟨⟨v, b1, l1⟩, ⟨k1, b2, a2⟩, lo, hWs⟩ hK
    have hc1 := b1.cell
    have hc2 := b2.cell
    have hsc := hk.last hk2 a2
    have HSC := Lib.hid hsc
    clear hsc hk hk2 a2
    gi_wp2
    refine wpIn_wide.2 ?_
    go_region
    gi_wp2
    refine ⟨by simp, .inl ⟨_, _, rfl, run_takeDeferred (w := W.drew) hK, ?_⟩⟩
    have hput : Below w.heap.size w (W.drew.putObj D (.deferred none)) := lo.drew.trans (belowK_b (w := w) (Nat.le_refl _) W.drew D _ _ (by omega) hK rfl rfl)
    have hl2 := ls_kept (w := W.drew) (l1.below (below_drew1 _ _)) (w' := W.drew.putObj D (.deferred none)) (row := some D) (grownBy_putObj' W.drew D (.deferred none)) (fun r e => by cases e; exact ⟨_, hK, rfl⟩)
    refine ⟨_, results_tmp2 rfl _ _ _, v, by rw [HSC.out]; rfl, ?_, hput⟩
    rw [HSC.out]
    exact LsO.low hl2 (by omega)
  case stop =>
    rintro D c pre W _ _ h _
    exact h.elim
theorem scan_any (p : Option Addr) (n c : Nat) (l : List UInt8) (w : World) (hE : EType w) (hB : Bs w p n c l) (hpb : 0 < n → ∀ a, p = some a → a.block < w.heap.size) (hn : n ≤ 1000000) :
    Calls Tryz.prog 112 #[.slice p n c] w (ScanP l w) :=
  (scanO_any p n c l w hE hB hpb hn).mono fun _ _ ⟨v, h1, h2, h3⟩ => ⟨v, h1, h2.ls, h3⟩
end Go.Proofs.YtnejjfglkindjaaGreatDoor.Frm

namespace Go.Proofs.YtnejjfglkindjaaGreatDoor.Frm
open Go.RowKit Go.Mir Go.Mir.Parts Wr Cod Cut Rdr

theorem bs_block {w : World} {p : Option Addr} {n c : Nat} {l : List UInt8} (h : Bs w p n c l) : 0 < n → ∀ a, p = some a → a.block < w.heap.size := fun h0 a ha => by
  obtain ⟨b, o, rfl⟩ := h.addr h0 (by omega)
  obtain rfl := Option.some.inj ha
  exact block_lt_of_cell (Bs.byte h (j := 0) (by have := h.length; omega))
set_option maxRecDepth 100000 in
set_option maxHeartbeats 1600000 in
theorem same_any (p p2 : Option Addr) (n c n2 c2 : Nat) (la lb : List (List UInt8)) (w : World) (hA : Pts w p n c la) (hB : Pts w p2 n2 c2 lb) :
    Calls Tryz.prog 57 #[.slice p n c, .slice p2 n2 c2] w fun e w' => e = .returned (.bool (la == lb)) ∧ Below w.heap.size w w' := by
  have HA := Lib.hid hA
  have HB := Lib.hid hB
  have ha := hA.le
  have hb := hB.le
  have ham := hA.max
  have hbm := hB.max
  obtain rfl : la.length = n := hA.len
  obtain rfl : lb.length = n2 := hB.len
  clear hA hB
  by_cases hl : la.length = lb.length
  · have hlen : ((la.length : Int) == (lb.length : Int)) = true := by rw [beq_iff_eq]; omega
    have hlen2 : ((la.length : Int) != (lb.length : Int)) = false := by rw [bne_eq_false_iff_eq]; omega
    have HL := Lib.hid hl
    clear hl
    go_enter Tryz.func57, Tryz.ntmps57
    go_wp2_with fail
    go_loopw [5] (fun j wr => ∃ k : Nat, k ≤ la.length ∧ j = .int .i64 k ∧ la.take k = lb.take k ∧ Below w.heap.size w wr) (fun j _ => la.length - (intOf j).toNat)
    case atStart => exact ⟨0, by omega, rfl, rfl, Below.refl _ _⟩
    case round =>
      obtain ⟨k, hk, rfl, heq, hbw⟩ := hrel
      have HEQ := Lib.hid heq
      have HBW := Lib.hid hbw
      clear heq hbw
      by_cases hlt : k < la.length
      · have hlt2 : k < lb.length := by rw [← HL.out]; exact hlt
        obtain ⟨b, o, rfl⟩ := HA.out.addr (by omega)
        obtain ⟨b2, o2, rfl⟩ := HB.out.addr (by omega)
        obtain ⟨q, m, d, e1, f1⟩ := (HA.out.below HBW.out).cell _ rfl k hlt
        obtain ⟨q2, m2, d2, e2, f2⟩ := (HB.out.below HBW.out).cell _ rfl k hlt2
        rw [add_none] at e1 e2
        have HST : Hid (la[k]'hlt = lb[k]'hlt2 → la.take (k + 1) = lb.take (k + 1)) := fun e => by rw [take_snoc la k hlt, take_snoc lb k hlt2, HEQ.out, e]
        have HNE : Hid (¬ la[k]'hlt = lb[k]'hlt2 → (la == lb) = false) := fun h => by
          rw [beq_eq_false_iff_ne]; intro e; subst e; exact h rfl
        generalize la[k]'hlt = x at *
        generalize lb[k]'hlt2 = y at *
        have hd : decide ((k : Int) < (la.length : Int)) = true := decide_eq_true (by omega)
        have HE1 : Hid (∀ w', Below wr.heap.size wr w' → w'.cell? ⟨b, o + k, none⟩ = some (.slice q m d)) := fun w' hb => cell_below e1 hb
        have HE2 : Hid (∀ w', Below wr.heap.size wr w' → w'.cell? ⟨b2, o2 + k, none⟩ = some (.slice q2 m2 d2)) := fun w' hb => cell_below e2 hb
        have HC1 : Hid (∀ w', Below wr.heap.size wr w' → (convert 22 9 (.slice q m d)).run Tryz.prog w' = .ok (.string (S x)) w') := fun w' hb => bconv (f1.below hb)
        have HC2 : Hid (∀ w', Below wr.heap.size wr w' → (convert 22 9 (.slice q2 m2 d2)).run Tryz.prog w' = .ok (.string (S y)) w') := fun w' hb => bconv (f2.below hb)
        clear e1 e2 f1 f2
        go_wp2_with fail
        refine wp_region_eager [(0, true), (1, true), (2, true), (3, true), (4, true), (5, true), (6, true), (7, true), (8, true), (9, true), (10, true)] (by kernel_rfl) (by kernel_rfl) (eagerOpen rfl ?_)
        repeat (first
          | (first | (apply wpEager_take; (· rfl); (· (intro w' hb'; go_simp; try with_reducible rfl)); (try simp only [Act.put, List.setIfInBounds_toArray, List.set_cons_zero, List.set_cons_succ]); (try refine eagerOpen rfl ?_)) | (refine wpEager_skip (by rfl) ?_; (try simp only [Act.put, List.setIfInBounds_toArray, List.set_cons_zero, List.set_cons_succ]); (try refine eagerOpen rfl ?_)) | (refine wpEager_off (by rfl) ?_; (try simp only [Act.put, List.setIfInBounds_toArray, List.set_cons_zero, List.set_cons_succ]); (try refine eagerOpen rfl ?_)))
          | (apply wpEager_take; (· rfl); (· (intro w' hb'; have hk' := (fun w' hb => HE1.out w' hb) w' hb'; go_split_ands; go_simp; try with_reducible rfl)); (try simp only [Act.put, List.setIfInBounds_toArray, List.set_cons_zero, List.set_cons_succ]); (try refine eagerOpen rfl ?_))
          | (apply wpEager_take; (· rfl); (· (intro w' hb'; have hk' := (fun w' hb => HE2.out w' hb) w' hb'; go_split_ands; go_simp; try with_reducible rfl)); (try simp only [Act.put, List.setIfInBounds_toArray, List.set_cons_zero, List.set_cons_succ]); (try refine eagerOpen rfl ?_))
          | (apply wpEager_take; (· rfl); (· (intro w' hb'; have hk' := (fun w' hb => HC1.out w' hb) w' hb'; go_split_ands; go_simp; try with_reducible rfl)); (try simp only [Act.put, List.setIfInBounds_toArray, List.set_cons_zero, List.set_cons_succ]); (try refine eagerOpen rfl ?_))
          | (apply wpEager_take; (· rfl); (· (intro w' hb'; have hk' := (fun w' hb => HC2.out w' hb) w' hb'; go_split_ands; go_simp; try with_reducible rfl)); (try simp only [Act.put, List.setIfInBounds_toArray, List.set_cons_zero, List.set_cons_succ]); (try refine eagerOpen rfl ?_)))
        refine eagerEnd ?_
        have HBD : Hid (Below w.heap.size w wr.drew) := HBW.out.trans ((below_drew1 _ _).mono HBW.out.size)
        clear HE1 HE2 HC1 HC2
        by_cases hxy : x = y
        · have hbq : (x == y) = true := by rw [beq_iff_eq]; exact hxy
          have HN := Lib.hid (HST.out hxy)
          clear hxy
          rw [hbq]
          simp only [Bool.not_true]
          go_wp2_with fail
          go_roundw
          case rel => exact ⟨k + 1, by omega, by go_num, HN.out, HBD.out⟩
          case measure => simp [intOf]; omega
        · have hbq : (x == y) = false := by rw [beq_eq_false_iff_ne]; exact hxy
          have HN := Lib.hid (HNE.out hxy)
          clear hxy
          rw [hbq]
          simp only [Bool.not_false]
          go_wp2_with fail
          go_ret
          exact ⟨by rw [HN.out]; rfl, HBD.out⟩
      · have HR : Hid ((la == lb) = true) := by
          show _ = _
          have h1 := HEQ.out
          rw [List.take_of_length_le (by omega), List.take_of_length_le (by rw [← HL.out]; omega)] at h1
          rw [beq_iff_eq]; exact h1
        have hd : decide ((k : Int) < (la.length : Int)) = false := decide_eq_false (by omega)
        go_wp2_with fail
        go_ret
        exact ⟨by rw [HR.out]; rfl, HBW.out⟩
  · have hlen : ((la.length : Int) == (lb.length : Int)) = false := by rw [beq_eq_false_iff_ne]; omega
    have HR : Hid ((la == lb) = false) := by
      show _ = _
      rw [beq_eq_false_iff_ne]; intro e; exact hl (by rw [e])
    clear hl
    go_enter Tryz.func57, Tryz.ntmps57
    go_wp2_with fail
    go_ret
    exact ⟨by rw [HR.out]; rfl, Below.refl _ _⟩
end Go.Proofs.YtnejjfglkindjaaGreatDoor.Frm

namespace Go.Proofs.YtnejjfglkindjaaGreatDoor.CrcW
open Go.RowKit Go.Mir

theorem infoB : (Tryz.prog.info? 5).map (fun i => (i.zero, i.size, i.bytes)) = some (some (.int .u8 0), 1, 1) := by kernel_rfl

theorem bit_int (x : BitVec 32) (k : Nat) : (((x.toNat : Int) / 2 ^ k).tmod 2 == 1) = x.getLsbD k := by
  have e : ((x.toNat : Int) / 2 ^ k) = ((x.toNat / 2 ^ k : Nat) : Int) := by
    rw [Int.natCast_ediv, Int.natCast_pow]; rfl
  rw [e, Int.tmod_eq_emod_of_nonneg (Int.natCast_nonneg _)]
  rw [BitVec.getLsbD, Nat.testBit_eq_decide_div_mod_eq]
  by_cases h : x.toNat / 2 ^ k % 2 = 1
  · rw [h, beq_iff_eq.2 (show (((x.toNat / 2 ^ k : Nat) : Int) % 2) = 1 by omega)]; rfl
  · rw [decide_eq_false h, beq_eq_false_iff_ne]; omega

def flipped (y : UInt8) (r : Nat) : UInt8 := UInt8.ofNat (y.toNat ^^^ 2 ^ r)
theorem flipped_toNat (y : UInt8) (r : Nat) (hr : r < 8) : (flipped y r).toNat = y.toNat ^^^ 2 ^ r := by
  have h1 : (2 : Nat) ^ r < 2 ^ 8 := Nat.pow_lt_pow_right (by omega) hr
  have h2 : y.toNat ^^^ 2 ^ r < 2 ^ 8 := Nat.xor_lt_two_pow y.toNat_lt h1
  rw [flipped, UInt8.toNat_ofNat']
  exact Nat.mod_eq_of_lt h2
theorem flip_int (y : UInt8) (r : Nat) (hr : r < 8) : bits BinOp.xor IntKind.u8 (y.toNat : Int) (2 ^ r % 256) = ((flipped y r).toNat : Int) := by
  have h1 : (2 : Nat) ^ r < 2 ^ 8 := Nat.pow_lt_pow_right (by omega) hr
  have e : ((2 : Int) ^ r % 256) = ((2 ^ r : Nat) : Int) := by
    rw [Int.natCast_pow]
    have h3 : ((2 ^ r : Nat) : Int) = (2 : Int) ^ r := Int.natCast_pow 2 r
    rw [show ((2 : Nat) : Int) = 2 from rfl, ← h3]
    exact Int.emod_eq_of_lt (Int.natCast_nonneg _) (by omega)
  rw [e, u8_xor_nat _ _ y.toNat_lt (by omega), flipped_toNat y r hr]
theorem bits_set (m : List UInt8) (t : Nat) (ht : t / 8 < m.length) (j : Nat) : Crc.bitAt (m.set (t / 8) (flipped m[t / 8] (t % 8))) j = (Crc.bitAt m j ^^ decide (j = t)) := by
  unfold Crc.bitAt
  by_cases h : j / 8 = t / 8
  · have e1 : (m.set (t / 8) (flipped m[t / 8] (t % 8))).getD (j / 8) 0 = flipped m[t / 8] (t % 8) := by
      rw [h]; simp [ht]
    have e2 : m.getD (j / 8) 0 = m[t / 8] := by rw [h]; simp [ht]
    rw [e1, e2, flipped_toNat _ _ (by omega), Nat.testBit_xor, Nat.testBit_two_pow]
    congr 1
    have : (t % 8 = j % 8) ↔ (j = t) := by omega
    simp [this]
  · have e1 : (m.set (t / 8) (flipped m[t / 8] (t % 8))).getD (j / 8) 0 = m.getD (j / 8) 0 := by
      simp [Ne.symm h]
    rw [e1, decide_eq_false (fun e => h (by rw [e]))]
    simp
theorem bytesV_set (m : List UInt8) (j : Nat) (y : UInt8) : bytesV (m.set j y) = (bytesV m).set j (.int .u8 (y.toNat : Int)) := by simp [bytesV, List.map_set]

end Go.Proofs.YtnejjfglkindjaaGreatDoor.CrcW

namespace Go.Proofs.YtnejjfglkindjaaGreatDoor.Frm
open Go.RowKit Go.Mir Go.Mir.Parts Wr Cod Cut Rdr

theorem frame_length (l : List UInt8) : (frame l).length = 8 + l.length := by unfold frame; simp only [List.length_append, be_length]
theorem frame_four (l : List UInt8) (r : List UInt8) : (frame l ++ r).take 4 = be l.length 4 := by
  unfold frame
  rw [List.append_assoc, List.append_assoc, List.take_append_of_le_length (by rw [be_length]; omega), List.take_of_length_le (by rw [be_length]; omega)]
theorem frame_body (l r : List UInt8) : ((frame l ++ r).drop 8).take l.length = l := by
  unfold frame
  rw [List.append_assoc, List.drop_append_of_le_length (by simp [be_length]), List.drop_of_length_le (by simp [be_length]), List.nil_append, List.take_append_of_le_length (by omega), List.take_of_length_le (by omega)]
theorem frame_take (l r : List UInt8) : (frame l ++ r).take (8 + l.length) = frame l := by
  rw [← frame_length, List.take_append_of_le_length (Nat.le_refl _), List.take_of_length_le (Nat.le_refl _)]
/-- there and back, whatever is behind -/
theorem one_frame (l r : List UInt8) (h1 : 1 ≤ l.length) (h2 : l.length ≤ 65536) : one (frame l ++ r) = (l, 8 + l.length, 0) := by
  have hv : beN ((frame l ++ r).take 4) = l.length := by rw [frame_four, beN_be _ _ (by omega) (by omega)]
  have hl : (frame l ++ r).length = 8 + l.length + r.length := by rw [List.length_append, frame_length]
  unfold one
  rw [hv, if_neg (by omega), if_neg (by omega), if_neg (by omega), frame_body, frame_take, if_pos rfl]
theorem one_frame0 (l : List UInt8) (h1 : 1 ≤ l.length) (h2 : l.length ≤ 65536) : one (frame l) = (l, 8 + l.length, 0) := by
  have := one_frame l [] h1 h2
  rwa [List.append_nil] at this
/-- torn -/
theorem one_torn (l : List UInt8) (h1 : 1 ≤ l.length) (h2 : l.length ≤ 65536) (k : Nat) (hk : k < 8 + l.length) : one ((frame l).take k) = ([], 0, 2) := by
  have hl : ((frame l).take k).length = k := by rw [List.length_take, frame_length]; omega
  unfold one
  by_cases h4 : k < 4
  · rw [if_pos (by omega)]
  · have hv : beN (((frame l).take k).take 4) = l.length := by
      rw [List.take_take, Nat.min_eq_left (by omega)]
      have := frame_four l []
      rw [List.append_nil] at this
      rw [this, beN_be _ _ (by omega) (by omega)]
    rw [hv, if_neg (by omega), if_neg (by omega), if_pos (by omega)]
/-- bytes of which one is another have another sum -/
theorem more_byte (s : BitVec 32) (a : List UInt8) (x y : UInt8) (b : List UInt8) (h : Crc.more s (a ++ x :: b) = Crc.more s (a ++ y :: b)) : x = y := by
  unfold Crc.more at h
  have h1 : Crc.run (s ^^^ Crc.ones) (a ++ x :: b) = Crc.run (s ^^^ Crc.ones) (a ++ y :: b) := by
    have := congrArg (· ^^^ Crc.ones) h
    simpa [Crc.xx] using this
  rw [Crc.run_append, Crc.run_append] at h1
  generalize Crc.run (s ^^^ Crc.ones) a = r at h1
  have e : ∀ z, Crc.run r (z :: b) = Crc.run (Crc.iter Crc.step 8 (r ^^^ Crc.byteW z)) b := fun z => rfl
  rw [e, e, Crc.iter_xor, Crc.iter_xor, Crc.run_xor, Crc.run_xor] at h1
  have h2 : Crc.iter Crc.step (8 * b.length) (Crc.iter Crc.step 8 (Crc.byteW x)) = Crc.iter Crc.step (8 * b.length) (Crc.iter Crc.step 8 (Crc.byteW y)) := by
    have := congrArg (Crc.run (Crc.iter Crc.step 8 r) b ^^^ ·) h1
    simpa [← BitVec.xor_assoc] using this
  rw [← Crc.iter_add, ← Crc.iter_add] at h2
  have h3 : Crc.iter Crc.step (8 * b.length + 8) (Crc.byteW x ^^^ Crc.byteW y) = 0#32 := by rw [Crc.iter_xor, h2]; simp
  have h4 := Crc.xor_eq_zero (Crc.iter_ne _ _ h3)
  have h5 := congrArg BitVec.toNat h4
  rw [Crc.byteW_toNat, Crc.byteW_toNat] at h5
  exact UInt8.toNat_inj.1 h5
theorem set_split (l : List UInt8) (j : Nat) (hj : j < l.length) (y : UInt8) : l.set j y = l.take j ++ y :: l.drop (j + 1) := List.set_eq_take_append_cons_drop .. |>.trans (by rw [if_pos hj])
/-- turned, behind the length -/
theorem one_odd (l : List UInt8) (h1 : 1 ≤ l.length) (h2 : l.length ≤ 65536) (j : Nat) (h4 : 4 ≤ j) (hj : j < 8 + l.length) (y : UInt8) (hy : ¬ (frame l)[j]'(by rw [frame_length]; exact hj) = y) : one ((frame l).set j y) = ([], 0, 9) := by
  have hfl := frame_length l
  have hl : ((frame l).set j y).length = 8 + l.length := by rw [List.length_set, hfl]
  have ht4 : ((frame l).set j y).take 4 = be l.length 4 := by
    rw [List.take_set_of_le (by omega)]
    have := frame_four l []
    rwa [List.append_nil] at this
  have hv : beN (((frame l).set j y).take 4) = l.length := by rw [ht4, beN_be _ _ (by omega) (by omega)]
  unfold one
  rw [hv, if_neg (by omega), if_neg (by omega), if_neg (by omega), if_neg]
  intro he
  rw [List.take_of_length_le (by omega : ((frame l).set j y).length ≤ 8 + l.length)] at he
  have hbl : (((frame l).set j y).drop 8).length = l.length := by rw [List.length_drop, hl]; omega
  rw [List.take_of_length_le (by omega)] at he
  have hd : (frame l).drop 8 = l := by
    have := frame_body l []
    rw [List.append_nil] at this
    rwa [List.take_of_length_le (by rw [List.length_drop, hfl]; omega)] at this
  by_cases h8 : j < 8
  · have hd2 : ((frame l).set j y).drop 8 = l := by rw [List.drop_set_of_lt (by omega), hd]
    rw [hd2] at he
    have := congrArg (·[j]?) he
    simp only [List.getElem?_set, hfl] at this
    rw [if_pos trivial, if_pos hj, List.getElem?_eq_getElem (by omega)] at this
    exact hy (Option.some.inj this)
  · have hd2 : ((frame l).set j y).drop 8 = l.set (j - 8) y := by rw [List.drop_set, if_neg (by omega), hd]
    rw [hd2] at he
    have hjl : j - 8 < l.length := by omega
    -- the sum that stands in both
    have hs : ((frame l).set j y).drop 4 = ((frame l).drop 4).set (j - 4) y := by rw [List.drop_set, if_neg (by omega)]
    have e4 : (frame (l.set (j - 8) y)).drop 4 = ((frame l).drop 4).set (j - 4) y := by rw [he, hs]
    have c1 : ∀ m : List UInt8, (frame m).drop 4 = be (Crc.more 0#32 ([be m.length 4, m].flatten)).toNat 4 ++ m := fun m => by
      unfold frame
      rw [List.append_assoc, List.drop_append_of_le_length (by rw [be_length]; omega), List.drop_of_length_le (by rw [be_length]; omega), List.nil_append]
    rw [c1, c1] at e4
    have e5 := congrArg (List.take 4) e4
    rw [List.take_set_of_le (by omega), List.take_append_of_le_length (by rw [be_length]; omega), List.take_append_of_le_length (by rw [be_length]; omega), List.take_of_length_le (by rw [be_length]; omega), List.take_of_length_le (by rw [be_length]; omega)] at e5
    have b1 := (Crc.more 0#32 ([be (l.set (j - 8) y).length 4, l.set (j - 8) y].flatten)).isLt
    have b2 := (Crc.more 0#32 ([be l.length 4, l].flatten)).isLt
    have e6 := congrArg beN e5
    rw [beN_be _ _ (by omega) (by omega), beN_be _ _ (by omega) (by omega)] at e6
    have e7 := BitVec.eq_of_toNat_eq e6
    simp only [List.flatten_cons, List.flatten_nil, List.append_nil, List.length_set] at e7
    rw [set_split l _ hjl, ← List.append_assoc] at e7
    have hl2 : l = l.take (j - 8) ++ l[j - 8] :: l.drop (j - 8 + 1) := by
      rw [List.getElem_cons_drop, List.take_append_drop]
    rw [show be l.length 4 ++ l = (be l.length 4 ++ l.take (j - 8)) ++ l[j - 8] :: l.drop (j - 8 + 1) by rw [List.append_assoc, ← hl2]] at e7
    have e8 := more_byte _ _ _ _ _ e7
    apply hy
    rw [e8]
    have : (frame l)[j]? = l[j - 8]? := by
      have := congrArg (·[j - 8]?) hd
      simp only [List.getElem?_drop] at this
      rwa [show 8 + (j - 8) = j by omega] at this
    rw [List.getElem?_eq_getElem (by omega), List.getElem?_eq_getElem hjl] at this
    exact Option.some.inj this
/-- one behind the other, and something that is none -/
theorem scan_frames (t : List UInt8) (ht : ¬ (one t).2.2 = 0) : ∀ (ls : List (List UInt8)), (∀ x ∈ ls, 1 ≤ x.length ∧ x.length ≤ 65536) → scan (ls.flatMap frame ++ t) = (ls, (ls.flatMap frame).length)
  | [], _ => by rw [List.flatMap_nil, List.nil_append, scan_no ht]; rfl
  | x :: r, h => by
    have hx := h x (by simp)
    have ih := scan_frames t ht r (fun y hy => h y (by simp [hy]))
    have ho := one_frame x (r.flatMap frame ++ t) hx.1 hx.2
    rw [← List.append_assoc] at ho
    rw [List.flatMap_cons, scan_ok (by rw [ho]), ho]
    dsimp only
    have hd : ((frame x ++ r.flatMap frame ++ t)).drop (8 + x.length) = r.flatMap frame ++ t := by
      rw [List.append_assoc, ← frame_length, List.drop_append_of_le_length (Nat.le_refl _), List.drop_of_length_le (Nat.le_refl _), List.nil_append]
    rw [hd, ih, List.length_append, frame_length]
theorem flipped_ne (y : UInt8) (r : Nat) (hr : r < 8) : ¬ y = CrcW.flipped y r := fun h => by
  have h1 := congrArg UInt8.toNat h
  rw [CrcW.flipped_toNat y r hr] at h1
  have h2 : y.toNat ^^^ (y.toNat ^^^ 2 ^ r) = 0 := by rw [← h1]; simp
  rw [← Nat.xor_assoc, Nat.xor_self, Nat.zero_xor] at h2
  have := Nat.pow_pos (n := r) (show 0 < 2 by omega)
  omega
theorem one_zero : one (List.replicate 20 0) = ([], 0, 4) := by
  unfold one
  rw [if_neg (by decide), if_pos (by decide)]
end Go.Proofs.YtnejjfglkindjaaGreatDoor.Frm
