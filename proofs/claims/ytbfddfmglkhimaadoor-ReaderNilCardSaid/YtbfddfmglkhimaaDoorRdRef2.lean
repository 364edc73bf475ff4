/- THE WALKS OF THE REFERENCE's READER (a plain value): Num, Count. Conditions: sizes that fit. -/
import Derived.Test.YtbfddfmglkhimaaDoorRdRef
namespace Go.Proofs.YtbfddfmglkhimaaDoor.RR
open Go.RowKit Go.Mir Go.Mir.Parts Rdr

theorem set3_other {w : World} {b k : Nat} (hne : k ≠ b) (x y z : Value) : (((w.setCell ⟨b, 0, none⟩ x).setCell ⟨b, 1, none⟩ y).setCell ⟨b, 2, none⟩ z).heap[k]? = w.heap[k]? := by
  rw [heap_setCell_other _ _ _ _ (by simpa using hne), heap_setCell_other _ _ _ _ (by simpa using hne), heap_setCell_other _ _ _ _ (by simpa using hne)]
def NumR (p : Option Addr) (n c : Nat) (s : RD) (k : Int) (w : World) (e : Ending) (w' : World) : Prop :=
  e = .returned (.tuple #[rs p n c (s.numS k), .int .u64 (s.numV k : Int)]) ∧ Below w.heap.size w w'
theorem fitsW_no {k : Int} (h : ¬ (1 ≤ k ∧ k ≤ 8)) : fitsW k = false := by
  unfold fitsW
  rw [Bool.and_eq_false_iff]
  rcases Int.lt_or_le k 1 with h1 | h1
  · exact .inl (decide_eq_false (by omega))
  · exact .inr (decide_eq_false (by omega))
theorem fitsW_yes {k : Int} (h : 1 ≤ k ∧ k ≤ 8) : fitsW k = true := by
  unfold fitsW
  rw [decide_eq_true h.1, decide_eq_true h.2]
  rfl
theorem num_bad (s : RD) {k : Int} (h : ¬ (1 ≤ k ∧ k ≤ 8)) : s.numS k = s.fail 1 ∧ s.numV k = 0 := by
  unfold RD.numS RD.numV
  rw [fitsW_no h]
  obtain ⟨l, pos, bad⟩ := s
  have hB : RD.takeB ⟨l, pos, bad⟩ k false = [] := by unfold RD.takeB; rw [if_neg (by simp)]
  rw [hB]
  refine ⟨?_, rfl⟩
  unfold RD.takeS RD.fail
  cases bad with
  | none => rw [if_neg (by simp), if_pos (.inl rfl), if_pos ⟨rfl, by decide⟩]
  | some b => rw [if_pos (by simp), if_neg (by simp)]
set_option maxRecDepth 100000 in
set_option maxHeartbeats 1600000 in
theorem num_any (p : Option Addr) (n c : Nat) (s : RD) (k : Int) (hk : -9223372036854775808 ≤ k ∧ k ≤ 9223372036854775807) (w : World) (hs : RD.ok s) (hB : Bs w p n c s.l) :
    Calls Tryd.prog 35 #[rs p n c s, .int .i64 k] w (NumR p n c s k w) := by
  by_cases hfit : 1 ≤ k ∧ k ≤ 8
  · have HS1 : Hid (s.numS k = s.takeS k true ∧ s.numV k = beN (s.takeB k true) ∧ (s.takeB k true).length ≤ 8) := by
      have h1 : s.numS k = s.takeS k true := by unfold RD.numS; rw [fitsW_yes hfit]
      have h2 : s.numV k = beN (s.takeB k true) := by unfold RD.numV; rw [fitsW_yes hfit]
      have h3 := takeW_len s k
      rw [fitsW_yes hfit] at h3
      exact ⟨h1, h2, h3⟩
    have HF : Hid (∀ w', Below w.heap.size w w' → NumR p n c s k w (.returned (.tuple #[rr p n c ((s.takeS k true).pos : Int) (s.takeS k true).err, .int .u64 (beN (s.takeB k true) : Int)])) w') := fun w' hb => ⟨by rw [HS1.out.1, HS1.out.2.1], hb⟩
    have H : Hid (∀ w0, Below w.heap.size w w0 → Calls Tryd.prog 36 #[rr p n c (s.pos : Int) s.err, .int .i64 k] w0 (fun e w' => ∃ q d, e = .returned (.tuple #[rr p n c ((s.takeS k true).pos : Int) (s.takeS k true).err, .slice q (s.takeB k true).length d]) ∧ (∀ w'', KeepsB w p n w'' → Bs w'' q (s.takeB k true).length d (s.takeB k true)) ∧ Below w0.heap.size w0 w')) := fun w0 hb => bytes_any p n c s k hk w w0 hs hB
    have hl8 := HS1.out.2.2
    have hd1 : decide (k < (1 : Int)) = false := decide_eq_false (by omega)
    have hd2 : decide ((8 : Int) < k) = false := decide_eq_false (by omega)
    clear hs hB hfit
    show Calls _ _ #[rr p n c (s.pos : Int) s.err, .int .i64 k] _ _
    generalize ((s.takeS k true).pos : Int) = P2 at *
    generalize (s.takeS k true).err = E2 at *
    generalize s.takeB k true = L at *
    generalize (s.pos : Int) = P at *
    generalize s.err = E at *
    clear HS1
    go_enter Tryd.func35, Tryd.ntmps35
    have hT := two_allocs w (.cells #[.slice p n c, .int .i64 P, .int .i64 E] 39) (.cells #[.slice none 0 0, .int .i64 0, .int .i64 0] 39)
    have HT := Lib.hid hT
    clear hT
    go_wp2_with fail
    refine (H.out _ HT.out.2.2.2).mono ?_
    rintro e w1 ⟨q, d, rfl, hbs, hb⟩
    have e0 := Below.keepOld hb HT.out.1
    have e1 := Below.keepOld hb HT.out.2.1
    have HB1 := Lib.hid (set3_below (HT.out.2.2.2.trans (hb.mono HT.out.2.2.2.size)) (b := w.heap.size) (by omega) (.slice p n c) (.int .i64 P2) (.int .i64 E2))
    have HX0 := Lib.hid (set3 rfl e0 (.slice p n c) (.int .i64 P2) (.int .i64 E2))
    have HX1 : Hid ((((w1.setCell ⟨w.heap.size, 0, none⟩ (.slice p n c)).setCell ⟨w.heap.size, 1, none⟩ (.int .i64 P2)).setCell ⟨w.heap.size, 2, none⟩ (.int .i64 E2)).heap[w.heap.size + 1]? = some (.cells #[.slice none 0 0, .int .i64 0, .int .i64 0] 39 (0, 0))) := by
      show _ = _
      rw [set3_other (by omega)]
      exact e1
    have HBS : Hid (Bs (((w1.setCell ⟨w.heap.size, 0, none⟩ (.slice p n c)).setCell ⟨w.heap.size, 1, none⟩ (.int .i64 P2)).setCell ⟨w.heap.size, 2, none⟩ (.int .i64 E2)) q L.length d L) := hbs _ (KeepsB.below HB1.out)
    have hle := HBS.out.le
    have hmax := HBS.out.max
    obtain ⟨c00, c01, c02, f00, f01, f02⟩ := row3 e0
    clear hb hbs e0 e1
    go_wp2_with fail
    generalize ((w1.setCell ⟨w.heap.size, 0, none⟩ (.slice p n c)).setCell ⟨w.heap.size, 1, none⟩ (.int .i64 P2)).setCell ⟨w.heap.size, 2, none⟩ (.int .i64 E2) = w2 at *
    clear c00 c01 c02 f00 f01 f02
    generalize hLn : L.length = m at *
    have HLN := Lib.hid hLn
    clear hLn
    go_loop [7, 8] (fun x j => ∃ k : Nat, k ≤ m ∧ j = .int .i64 k ∧ x = .int .u64 (beN (L.take k) : Nat)) (fun _ j => m - (intOf j).toNat)
    case atStart => exact ⟨0, by omega, rfl, rfl⟩
    case round =>
      obtain ⟨k, hk, rfl, rfl⟩ := hrel
      have HLN := HLN
      by_cases hlt : k < m
      · have hd : decide ((k:Int) < m) = true := by simp; omega
        obtain ⟨b', o', rfl⟩ := HBS.out.addr (by omega) (by omega)
        have hc' := HBS.out.byte (j := k) (by rw [HLN.out]; omega)
        have hti := take_snoc L k (by rw [HLN.out]; omega)
        have hyl : L[k]'(by rw [HLN.out]; omega) = L[k]'(by rw [HLN.out]; omega) := rfl
        have hbe := beN_snoc (L.take k) (L[k]'(by rw [HLN.out]; omega))
        rw [← hti] at hbe
        have hb1 := beN_lt (L.take (k + 1)) (by rw [List.length_take, HLN.out]; omega)
        generalize hly : L[k]'(by rw [HLN.out]; omega) = y at *
        clear hly hyl hti
        have hll : y.toNat < 256 := y.toNat_lt
        generalize hB : beN (L.take k) = B at *
        generalize hB2 : beN (L.take (k + 1)) = B2 at *
        have HB2 := Lib.hid hB2
        have HBE := Lib.hid hbe
        have HW : Hid (IntKind.u64.wrap ((256 : Int) * (B : Int)) = ((256 * B : Nat) : Int)) := by
          show _ = _
          rw [IntKind.wrap_u64]
          omega
        have HW2 : Hid (IntKind.u64.wrap (((256 * B : Nat) : Int) + (y.toNat : Int)) = (B2 : Int)) := by
          show _ = _
          rw [IntKind.wrap_u64]
          omega
        have HW3 : Hid (IntKind.u64.wrap ((256 : Int) * (B : Int) + (y.toNat : Int)) = (B2 : Int)) := by
          show _ = _
          rw [IntKind.wrap_u64]
          omega
        have q1 := HW.out
        have q2 := HW2.out
        have q3 := HW3.out
        clear hB hB2 hbe
        go_wp2_with fail
        go_round
        case rel =>
          exact ⟨k + 1, by omega, by go_num, by first | rw [HB2.out] | (rw [HW.out, HW2.out, HB2.out]) | (rw [HW3.out, HB2.out])⟩
        case measure => simp [intOf]; omega
      · obtain rfl : k = m := by omega
        rw [← HLN.out, List.take_length]
        obtain ⟨c00, c01, c02, f00, f01, f02⟩ := row3 HX0.out
        obtain ⟨c10, c11, c12, f10, f11, f12⟩ := row3 HX1.out
        have HX2 := Lib.hid (set3 rfl HX1.out (.slice p n c) (.int .i64 P2) (.int .i64 E2))
        have HB2 := Lib.hid (set3_below HB1.out (b := w.heap.size + 1) (by omega) (.slice p n c) (.int .i64 P2) (.int .i64 E2))
        go_wp2_with fail
        refine bodyPost_ret (results_cell_tmp rfl _ _ _ _ _ _ _ rfl HX2.out Tryd.underlying39 rfl sizeR) rfl ?_
        exact HF.out _ HB2.out
  · obtain ⟨h1, h2⟩ := num_bad s hfit
    have hX := rs_fail hs p n c 1
    have H := fail_any p n c (s.pos : Int) s.err 1
    generalize (if s.err = 0 then (1 : Int) else s.err) = X at *
    have H := Lib.hid H
    have HF : Hid (∀ w', Below w.heap.size w w' → NumR p n c s k w (.returned (.tuple #[rr p n c (s.pos : Int) X, .int .u64 0])) w') := fun w' hb => ⟨by rw [h1, h2, hX]; rfl, hb⟩
    clear hX h1 h2 hs hB
    show Calls _ _ #[rr p n c (s.pos : Int) s.err, .int .i64 k] _ _
    generalize (s.pos : Int) = P at *
    generalize s.err = E at *
    by_cases hlo : k < 1
    · have hd1 : decide (k < (1 : Int)) = true := decide_eq_true hlo
      clear hfit hlo
      go_enter Tryd.func35, Tryd.ntmps35
      go_wp2_with fail
      refine (H.out _).mono ?_
      rintro e w' ⟨rfl, hb⟩
      have hT := two_allocs w (.cells #[.slice p n c, .int .i64 P, .int .i64 E] 39) (.cells #[.slice none 0 0, .int .i64 0, .int .i64 0] 39)
      have e1 := Below.keepOld hb hT.2.1
      have E2 := Lib.hid (set3 rfl e1 (.slice p n c) (.int .i64 P) (.int .i64 X))
      have HB1 := Lib.hid (set3_below (hT.2.2.2.trans (hb.mono hT.2.2.2.size)) (b := w.heap.size + 1) (by omega) (.slice p n c) (.int .i64 P) (.int .i64 X))
      obtain ⟨c10, c11, c12, f10, f11, f12⟩ := row3 e1
      clear hb hT e1
      go_wp2_with fail
      refine bodyPost_ret (results_cell_tmp rfl _ _ _ _ _ _ _ rfl E2.out Tryd.underlying39 rfl sizeR) rfl ?_
      exact HF.out _ HB1.out
    · have hd1 : decide (k < (1 : Int)) = false := decide_eq_false hlo
      have hd2 : decide ((8 : Int) < k) = true := decide_eq_true (by omega)
      clear hfit hlo
      go_enter Tryd.func35, Tryd.ntmps35
      go_wp2_with fail
      refine (H.out _).mono ?_
      rintro e w' ⟨rfl, hb⟩
      have hT := two_allocs w (.cells #[.slice p n c, .int .i64 P, .int .i64 E] 39) (.cells #[.slice none 0 0, .int .i64 0, .int .i64 0] 39)
      have e1 := Below.keepOld hb hT.2.1
      have E2 := Lib.hid (set3 rfl e1 (.slice p n c) (.int .i64 P) (.int .i64 X))
      have HB1 := Lib.hid (set3_below (hT.2.2.2.trans (hb.mono hT.2.2.2.size)) (b := w.heap.size + 1) (by omega) (.slice p n c) (.int .i64 P) (.int .i64 X))
      obtain ⟨c10, c11, c12, f10, f11, f12⟩ := row3 e1
      clear hb hT e1
      go_wp2_with fail
      refine bodyPost_ret (results_cell_tmp rfl _ _ _ _ _ _ _ rfl E2.out Tryd.underlying39 rfl sizeR) rfl ?_
      exact HF.out _ HB1.out

def CountR (p : Option Addr) (n c : Nat) (s : RD) (k m : Int) (w : World) (e : Ending) (w' : World) : Prop :=
  e = .returned (.tuple #[rs p n c (s.cntS k m), .int .i64 (s.cntV k m)]) ∧ Below w.heap.size w w'
theorem num_ok {s : RD} (h : RD.ok s) (k : Int) : RD.ok (s.numS k) ∧ (s.numS k).l = s.l := take_ok h _ _
theorem err_none {s : RD} (h : RD.ok s) : s.bad = none ↔ s.err = 0 := by
  obtain ⟨l, pos, bad⟩ := s
  cases bad with
  | none => exact ⟨fun _ => rfl, fun _ => rfl⟩
  | some b =>
    constructor
    · intro h'; cases h'
    · intro h'
      exact absurd (congrArg some h') h.1
theorem fail_bad (s : RD) (h : s.bad ≠ none) (e : Int) : s.fail e = s := by
  unfold RD.fail
  rw [if_neg (fun h' => h h'.1)]
set_option maxRecDepth 100000 in
set_option maxHeartbeats 1600000 in
theorem count_any (p : Option Addr) (n c : Nat) (s : RD) (k : Int) (hk : -9223372036854775808 ≤ k ∧ k ≤ 9223372036854775807) (m : Int) (hm : -9223372036854775808 ≤ m ∧ m ≤ 9223372036854775807) (w : World) (hs : RD.ok s) (hB : Bs w p n c s.l) :
    Calls Tryd.prog 37 #[rs p n c s, .int .i64 k, .int .i64 m] w (CountR p n c s k m w) := by
  have hok := (num_ok hs k).1
  have hVlt := numV_lt s k
  have hE := err_none hok
  have H : Hid (∀ w0, Below w.heap.size w w0 → Calls Tryd.prog 35 #[rr p n c (s.pos : Int) s.err, .int .i64 k] w0 (fun e w' => e = .returned (.tuple #[rr p n c ((s.numS k).pos : Int) (s.numS k).err, .int .u64 (s.numV k : Int)]) ∧ Below w0.heap.size w0 w')) := fun w0 hb => num_any p n c s k hk w0 hs (hB.below hb)
  show Calls _ _ #[rr p n c (s.pos : Int) s.err, .int .i64 k, .int .i64 m] _ _
  have hF2 : (s.numS k).bad = none → (s.numS k).fail 4 = ⟨(s.numS k).l, (s.numS k).pos, some 4⟩ := fun h => by unfold RD.fail; rw [if_pos ⟨h, by decide⟩]
  by_cases h0 : (s.numS k).err = 0
  · by_cases hbad : m < 0 ∨ m < (s.numV k : Int)
    · have hS : s.cntS k m = (s.numS k).fail 4 := by unfold RD.cntS; rw [if_pos hbad]
      have hV : s.cntV k m = 0 := by
        unfold RD.cntV
        rw [hS, hF2 (hE.2 h0), if_neg (by simp)]
      have HF : Hid (∀ w', Below w.heap.size w w' → CountR p n c s k m w (.returned (.tuple #[rr p n c ((s.numS k).pos : Int) 4, .int .i64 0])) w') := fun w' hb => ⟨by rw [hS, hV, hF2 (hE.2 h0)]; rfl, hb⟩
      clear hS hV hF2 hE hs hB hok
      have HE2 := Lib.hid h0
      have hz : ((s.numS k).err != 0) = false := by simp [h0]
      clear h0
      generalize ((s.numS k).pos : Int) = P2 at *
      generalize (s.numS k).err = E2 at *
      generalize (s.pos : Int) = P at *
      generalize s.err = E at *
      generalize s.numV k = V at *
      by_cases hneg : m < 0
      · have hd : decide (m < 0) = true := decide_eq_true hneg
        clear hbad hneg
        go_enter Tryd.func37, Tryd.ntmps37
        have hT := two_allocs w (.cells #[.slice p n c, .int .i64 P, .int .i64 E] 39) (.cells #[.slice none 0 0, .int .i64 0, .int .i64 0] 39)
        have HT := Lib.hid hT
        clear hT
        go_wp2_with fail
        refine (H.out _ HT.out.2.2.2).mono ?_
        rintro e w1 ⟨rfl, hb⟩
        have e0 := Below.keepOld hb HT.out.1
        have e1 := Below.keepOld hb HT.out.2.1
        have HB1 := Lib.hid (set3_below (HT.out.2.2.2.trans (hb.mono HT.out.2.2.2.size)) (b := w.heap.size) (by omega) (.slice p n c) (.int .i64 P2) (.int .i64 E2))
        have HX0 := Lib.hid (set3 rfl e0 (.slice p n c) (.int .i64 P2) (.int .i64 E2))
        have HX1 : Hid ((((w1.setCell ⟨w.heap.size, 0, none⟩ (.slice p n c)).setCell ⟨w.heap.size, 1, none⟩ (.int .i64 P2)).setCell ⟨w.heap.size, 2, none⟩ (.int .i64 E2)).heap[w.heap.size + 1]? = some (.cells #[.slice none 0 0, .int .i64 0, .int .i64 0] 39 (0, 0))) := by
          show _ = _
          rw [set3_other (by omega)]
          exact e1
        obtain ⟨c00, c01, c02, f00, f01, f02⟩ := row3 e0
        clear hb e0 e1
        go_upto_region 2 with fail
        generalize ((w1.setCell ⟨w.heap.size, 0, none⟩ (.slice p n c)).setCell ⟨w.heap.size, 1, none⟩ (.int .i64 P2)).setCell ⟨w.heap.size, 2, none⟩ (.int .i64 E2) = w2 at *
        clear c00 c01 c02 f00 f01 f02
        obtain ⟨c00, c01, c02, f00, f01, f02⟩ := row3 HX0.out
        obtain ⟨c10, c11, c12, f10, f11, f12⟩ := row3 HX1.out
        go_wp2_with fail
        refine (fail_any p n c P2 E2 4 _).mono ?_
        rintro e w3 ⟨rfl, hb⟩
        rw [if_pos HE2.out]
        have e1 := Below.keepOld hb HX1.out
        have HX2 := fun X => Lib.hid (set3 rfl e1 (.slice p n c) (.int .i64 P2) (.int .i64 X))
        have HB2 := fun X => Lib.hid (set3_below (HB1.out.trans (hb.mono HB1.out.size)) (b := w.heap.size + 1) (by omega) (.slice p n c) (.int .i64 P2) (.int .i64 X))
        clear c10 c11 c12 f10 f11 f12
        obtain ⟨c10, c11, c12, f10, f11, f12⟩ := row3 e1
        clear hb e1
        go_wp2_with fail
        refine bodyPost_ret (results_cell_tmp rfl _ _ _ _ _ _ _ rfl (HX2 _).out Tryd.underlying39 rfl sizeR) rfl ?_
        exact HF.out _ (HB2 _).out
      · have hd : decide (m < 0) = false := decide_eq_false hneg
        obtain ⟨M, rfl⟩ : ∃ M : Nat, m = (M : Int) := ⟨m.toNat, by omega⟩
        have hd1 : decide ((M : Int) < (0 : Int)) = false := decide_eq_false (by omega)
        have hd2 : decide ((M : Int) < (V : Int)) = true := decide_eq_true (by omega)
        have hd3 : decide (M < V) = true := decide_eq_true (by omega)
        have hwm : IntKind.u64.wrap (M : Int) = (M : Int) := by rw [IntKind.wrap_u64]; omega
        clear hbad hneg
        go_enter Tryd.func37, Tryd.ntmps37
        have hT := two_allocs w (.cells #[.slice p n c, .int .i64 P, .int .i64 E] 39) (.cells #[.slice none 0 0, .int .i64 0, .int .i64 0] 39)
        have HT := Lib.hid hT
        clear hT
        go_wp2_with fail
        refine (H.out _ HT.out.2.2.2).mono ?_
        rintro e w1 ⟨rfl, hb⟩
        have e0 := Below.keepOld hb HT.out.1
        have e1 := Below.keepOld hb HT.out.2.1
        have HB1 := Lib.hid (set3_below (HT.out.2.2.2.trans (hb.mono HT.out.2.2.2.size)) (b := w.heap.size) (by omega) (.slice p n c) (.int .i64 P2) (.int .i64 E2))
        have HX0 := Lib.hid (set3 rfl e0 (.slice p n c) (.int .i64 P2) (.int .i64 E2))
        have HX1 : Hid ((((w1.setCell ⟨w.heap.size, 0, none⟩ (.slice p n c)).setCell ⟨w.heap.size, 1, none⟩ (.int .i64 P2)).setCell ⟨w.heap.size, 2, none⟩ (.int .i64 E2)).heap[w.heap.size + 1]? = some (.cells #[.slice none 0 0, .int .i64 0, .int .i64 0] 39 (0, 0))) := by
          show _ = _
          rw [set3_other (by omega)]
          exact e1
        obtain ⟨c00, c01, c02, f00, f01, f02⟩ := row3 e0
        clear hb e0 e1
        go_upto_region 2 with fail
        generalize ((w1.setCell ⟨w.heap.size, 0, none⟩ (.slice p n c)).setCell ⟨w.heap.size, 1, none⟩ (.int .i64 P2)).setCell ⟨w.heap.size, 2, none⟩ (.int .i64 E2) = w2 at *
        clear c00 c01 c02 f00 f01 f02
        obtain ⟨c00, c01, c02, f00, f01, f02⟩ := row3 HX0.out
        obtain ⟨c10, c11, c12, f10, f11, f12⟩ := row3 HX1.out
        go_wp2_with fail
        refine (fail_any p n c P2 E2 4 _).mono ?_
        rintro e w3 ⟨rfl, hb⟩
        rw [if_pos HE2.out]
        have e1 := Below.keepOld hb HX1.out
        have HX2 := fun X => Lib.hid (set3 rfl e1 (.slice p n c) (.int .i64 P2) (.int .i64 X))
        have HB2 := fun X => Lib.hid (set3_below (HB1.out.trans (hb.mono HB1.out.size)) (b := w.heap.size + 1) (by omega) (.slice p n c) (.int .i64 P2) (.int .i64 X))
        clear c10 c11 c12 f10 f11 f12
        obtain ⟨c10, c11, c12, f10, f11, f12⟩ := row3 e1
        clear hb e1
        go_wp2_with fail
        refine bodyPost_ret (results_cell_tmp rfl _ _ _ _ _ _ _ rfl (HX2 _).out Tryd.underlying39 rfl sizeR) rfl ?_
        exact HF.out _ (HB2 _).out
    · have hS : s.cntS k m = s.numS k := by unfold RD.cntS; rw [if_neg hbad]
      have hV : s.cntV k m = (s.numV k : Int) := by
        unfold RD.cntV
        rw [hS, if_pos (hE.2 h0)]
      have HF : Hid (∀ w', Below w.heap.size w w' → CountR p n c s k m w (.returned (.tuple #[rr p n c ((s.numS k).pos : Int) (s.numS k).err, .int .i64 (s.numV k : Int)])) w') := fun w' hb => ⟨by rw [hS, hV], hb⟩
      clear hS hV hF2 hE hs hB hok
      have hz : ((s.numS k).err != 0) = false := by simp [h0]
      clear h0
      generalize ((s.numS k).pos : Int) = P2 at *
      generalize (s.numS k).err = E2 at *
      generalize (s.pos : Int) = P at *
      generalize s.err = E at *
      generalize s.numV k = V at *
      obtain ⟨M, rfl⟩ : ∃ M : Nat, m = (M : Int) := ⟨m.toNat, by omega⟩
      have hd1 : decide ((M : Int) < (0 : Int)) = false := decide_eq_false (by omega)
      have hd2 : decide ((M : Int) < (V : Int)) = false := decide_eq_false (by omega)
      have hd3 : decide (M < V) = false := decide_eq_false (by omega)
      have hwm : IntKind.u64.wrap (M : Int) = (M : Int) := by rw [IntKind.wrap_u64]; omega
      have hwv : IntKind.i64.wrap (V : Int) = (V : Int) := IntWalk.i64_in _ (by omega)
      clear hbad
      go_enter Tryd.func37, Tryd.ntmps37
      have hT := two_allocs w (.cells #[.slice p n c, .int .i64 P, .int .i64 E] 39) (.cells #[.slice none 0 0, .int .i64 0, .int .i64 0] 39)
      have HT := Lib.hid hT
      clear hT
      go_wp2_with fail
      refine (H.out _ HT.out.2.2.2).mono ?_
      rintro e w1 ⟨rfl, hb⟩
      have e0 := Below.keepOld hb HT.out.1
      have e1 := Below.keepOld hb HT.out.2.1
      have HB1 := Lib.hid (set3_below (HT.out.2.2.2.trans (hb.mono HT.out.2.2.2.size)) (b := w.heap.size) (by omega) (.slice p n c) (.int .i64 P2) (.int .i64 E2))
      have HX0 := Lib.hid (set3 rfl e0 (.slice p n c) (.int .i64 P2) (.int .i64 E2))
      have HX1 : Hid ((((w1.setCell ⟨w.heap.size, 0, none⟩ (.slice p n c)).setCell ⟨w.heap.size, 1, none⟩ (.int .i64 P2)).setCell ⟨w.heap.size, 2, none⟩ (.int .i64 E2)).heap[w.heap.size + 1]? = some (.cells #[.slice none 0 0, .int .i64 0, .int .i64 0] 39 (0, 0))) := by
        show _ = _
        rw [set3_other (by omega)]
        exact e1
      obtain ⟨c00, c01, c02, f00, f01, f02⟩ := row3 e0
      clear hb e0 e1
      go_upto_region 2 with fail
      generalize ((w1.setCell ⟨w.heap.size, 0, none⟩ (.slice p n c)).setCell ⟨w.heap.size, 1, none⟩ (.int .i64 P2)).setCell ⟨w.heap.size, 2, none⟩ (.int .i64 E2) = w2 at *
      clear c00 c01 c02 f00 f01 f02
      obtain ⟨c00, c01, c02, f00, f01, f02⟩ := row3 HX0.out
      obtain ⟨c10, c11, c12, f10, f11, f12⟩ := row3 HX1.out
      go_wp2_with fail
      have HX2 := Lib.hid (set3 rfl HX1.out (.slice p n c) (.int .i64 P2) (.int .i64 E2))
      have HB2 := Lib.hid (set3_below HB1.out (b := w.heap.size + 1) (by omega) (.slice p n c) (.int .i64 P2) (.int .i64 E2))
      refine bodyPost_ret (results_cell_tmp rfl _ _ _ _ _ _ _ rfl HX2.out Tryd.underlying39 rfl sizeR) rfl ?_
      exact HF.out _ HB2.out
  · have hne : (s.numS k).bad ≠ none := fun h => h0 (hE.1 h)
    have hS : s.cntS k m = s.numS k := by
      unfold RD.cntS
      rw [fail_bad _ hne, ite_self]
    have hV : s.cntV k m = 0 := by
      unfold RD.cntV
      rw [hS, if_neg hne]
    have HF : Hid (∀ w', Below w.heap.size w w' → CountR p n c s k m w (.returned (.tuple #[rr p n c ((s.numS k).pos : Int) (s.numS k).err, .int .i64 0])) w') := fun w' hb => ⟨by rw [hS, hV], hb⟩
    clear hS hV hF2 hE hs hB hok hne
    have hz : ((s.numS k).err != 0) = true := by simp [h0]
    clear h0
    generalize ((s.numS k).pos : Int) = P2 at *
    generalize (s.numS k).err = E2 at *
    generalize (s.pos : Int) = P at *
    generalize s.err = E at *
    generalize s.numV k = V at *
    go_enter Tryd.func37, Tryd.ntmps37
    have hT := two_allocs w (.cells #[.slice p n c, .int .i64 P, .int .i64 E] 39) (.cells #[.slice none 0 0, .int .i64 0, .int .i64 0] 39)
    have HT := Lib.hid hT
    clear hT
    go_wp2_with fail
    refine (H.out _ HT.out.2.2.2).mono ?_
    rintro e w1 ⟨rfl, hb⟩
    have e0 := Below.keepOld hb HT.out.1
    have e1 := Below.keepOld hb HT.out.2.1
    have HB1 := Lib.hid (set3_below (HT.out.2.2.2.trans (hb.mono HT.out.2.2.2.size)) (b := w.heap.size) (by omega) (.slice p n c) (.int .i64 P2) (.int .i64 E2))
    have HX0 := Lib.hid (set3 rfl e0 (.slice p n c) (.int .i64 P2) (.int .i64 E2))
    have HX1 : Hid ((((w1.setCell ⟨w.heap.size, 0, none⟩ (.slice p n c)).setCell ⟨w.heap.size, 1, none⟩ (.int .i64 P2)).setCell ⟨w.heap.size, 2, none⟩ (.int .i64 E2)).heap[w.heap.size + 1]? = some (.cells #[.slice none 0 0, .int .i64 0, .int .i64 0] 39 (0, 0))) := by
      show _ = _
      rw [set3_other (by omega)]
      exact e1
    obtain ⟨c00, c01, c02, f00, f01, f02⟩ := row3 e0
    clear hb e0 e1
    go_upto_region 2 with fail
    generalize ((w1.setCell ⟨w.heap.size, 0, none⟩ (.slice p n c)).setCell ⟨w.heap.size, 1, none⟩ (.int .i64 P2)).setCell ⟨w.heap.size, 2, none⟩ (.int .i64 E2) = w2 at *
    clear c00 c01 c02 f00 f01 f02
    obtain ⟨c00, c01, c02, f00, f01, f02⟩ := row3 HX0.out
    obtain ⟨c10, c11, c12, f10, f11, f12⟩ := row3 HX1.out
    go_wp2_with fail
    have HX2 := Lib.hid (set3 rfl HX1.out (.slice p n c) (.int .i64 P2) (.int .i64 E2))
    have HB2 := Lib.hid (set3_below HB1.out (b := w.heap.size + 1) (by omega) (.slice p n c) (.int .i64 P2) (.int .i64 E2))
    refine bodyPost_ret (results_cell_tmp rfl _ _ _ _ _ _ _ rfl HX2.out Tryd.underlying39 rfl sizeR) rfl ?_
    exact HF.out _ HB2.out
end Go.Proofs.YtbfddfmglkhimaaDoor.RR
