/- LAYER 10: the walk of WriterWrites. Conditions: the total fits an int. -/
import Derived.Test.YthgaadnbmiekkaaW10StepW
import Derived.Test.YthgaadnbmiekkaaConv
namespace Go.Proofs.Ythgaadnbmiekkaa.W10
open Go.RowKit Go.Mir Go.Mir.Parts Wr RW

/-- too much of calls -/
theorem writes_out (room : Int) (p : Option Addr) (n c : Nat) (L : List (List Value × OpD)) (w : World) (h : OpsAt w p n c L) (hs : n + weights L ≤ 4611686018427387904) (hbig : 5000 < n + weights L) :
    Calls Try.prog 4 #[.int .i64 room, .slice p n c] w fun e w' => e = .returned (.bool true) ∧ Below w.heap.size w w' := by
  have hd : decide (n + weights L ≤ 5000) = false := by simp; omega
  have HD := Lib.hid hd
  clear hd
  go_enter Try.func4, Try.ntmps4
  go_wp2_with fail
  refine (small_any _ _ _ L _ h hs).mono ?_
  rintro e w1 ⟨rfl, hb1⟩
  have HB1 := Lib.hid hb1
  clear hb1
  rw [HD.out]
  go_wp2_with fail
  refine (alive_any _).mono ?_
  rintro e w2 ⟨rfl, hb2⟩
  have HB2 := Lib.hid (HB1.out.trans (hb2.mono HB1.out.size))
  clear hb2
  go_wp2_with fail
  go_ret
  exact ⟨rfl, HB2.out⟩

theorem drewN_below (w : World) (n : Nat) : Below w.heap.size w (w.drewN n) := ⟨rfl, rfl, rfl, Nat.le_refl _, fun _ _ => rfl⟩
/-- both writers agree, between two rounds -/
structure WInv (w : World) (L : List (List Value × OpD)) (k : Nat) (wr : World) (wb xb : Nat) (v : Value) (R : Nat) (l : List UInt8) (bad : Int) (p : Option Addr) (n c : Nat) : Prop where
  wat : WAt wr wb v R l bad
  row : wr.heap[xb]? = some (.cells #[.int .i64 (R : Int), .slice p n c, .int .i64 bad] 48 (0, 0))
  bs : Bs wr p n c l
  apart : ∀ a, p = some a → a.block < wr.heap.size ∧ ¬ foot wb v a.block ∧ a.block ≠ xb
  own : ∀ k, foot wb v k → w.heap.size ≤ k ∧ k ≠ xb
  xlt : w.heap.size ≤ xb
  len : l.length ≤ 40 * k + weights (L.take k)
  below : Below w.heap.size w wr

set_option maxRecDepth 100000 in
set_option maxHeartbeats 1000000 in
theorem writes_in (room : Int) (p0 : Option Addr) (n0 c0 : Nat) (L : List (List Value × OpD)) (w : World) (h : OpsAt w p0 n0 c0 L) (hs : n0 + weights L ≤ 5000) (hroom : room ≤ 9223372036854775807) :
    Calls Try.prog 4 #[.int .i64 room, .slice p0 n0 c0] w fun e w' => e = .returned (.bool true) ∧ Below w.heap.size w w' := by
  have hd : decide (n0 + weights L ≤ 5000) = true := by simp; omega
  have hle := h.rs.sl.le
  have hmax := h.rs.sl.max
  have hcnt : L.length = n0 := by simpa using h.rs.count
  have HD := Lib.hid hd
  have H := Lib.hid h
  have hz := zeroOp
  clear hd h
  go_enter Try.func4, Try.ntmps4
  go_wp2_with fail
  refine (small_any _ _ _ L _ H.out (by omega)).mono ?_
  rintro e w1 ⟨rfl, hb1⟩
  have HB1 := Lib.hid hb1
  clear hb1
  rw [HD.out]
  go_wp2_with fail
  refine (Wr.new_any room _ hroom).mono ?_
  rintro e w2 ⟨rfl, hw2, hb2⟩
  have HB2 := Lib.hid (HB1.out.trans (hb2.mono HB1.out.size))
  have HW2 := Lib.hid hw2
  have hlt2 := hw2.lt
  clear hb2 hw2
  go_wp2_with fail
  refine (RW.new_any room _).mono ?_
  rintro e w3 ⟨rfl, hb3⟩
  have HB3 := Lib.hid (HB2.out.trans (hb3.mono HB2.out.size))
  have HW3 : Hid (WAt w3 w1.heap.size (.slice none 0 0) room.toNat [] 0) := HW2.out.touch (Turns.of_below (S := fun _ => False) hb3) (fun _ _ h => h)
  have hsz3 := hb3.size
  clear hb3
  generalize room.toNat = R at *
  have hz0 : w1.heap.size < w3.heap.size := by have := hlt2 w1.heap.size (.inl rfl); omega
  have HZ0 := Lib.hid hz0
  clear hlt2 hsz3 hz0
  go_wp2_with fail
  go_loopw [24] (fun j wr => ∃ (k : Nat) (v : Value) (l : List UInt8) (bad : Int) (p : Option Addr) (n c : Nat), k ≤ n0 ∧ j = .int .i64 k ∧ WInv w L k wr w1.heap.size w3.heap.size v R l bad p n c) (fun j _ => n0 - (intOf j).toNat)
  case atStart =>
    refine ⟨0, _, [], 0, none, 0, 0, by omega, rfl, HW3.out.alloc _, heap_alloc_last _ _, Sl.nil _ _, fun a ha => (by cases ha), fun k hk => ?_, HB3.out.size, by simp, HB3.out.alloc HB3.out.size _⟩
    rcases hk with rfl | hk
    · exact ⟨HB1.out.size, by have := HZ0.out; omega⟩
    · simp [Value.ownBlock] at hk
  case round =>
    obtain ⟨k, v, l, bad, p, n, c, hk, rfl, hinv⟩ := hrel
    have HI := Lib.hid hinv
    clear hinv
    by_cases hlt : k < n0
    · obtain ⟨b, o, rfl⟩ := H.out.rs.sl.addr (by omega) (by omega)
      have hop0 : OpAt w (L[k]'(by omega)).1 (L[k]'(by omega)).2 := H.out.each _ (List.getElem_mem _)
      have hrow : wr.rangeAt b (o + k * 37) (L[k]'(by omega)).1 := by
        have := (H.out.rs.below HI.out.below).row k (by simpa using (by omega))
        simpa using this
      have hw := weights_succ L k (by omega)
      have hwl := weights_le L (k + 1)
      generalize hW1 : weights (L.take (k + 1)) = W1 at *
      generalize hW0 : weights (L.take k) = W0 at *
      have HW1 := Lib.hid hW1
      have HW0 := Lib.hid hW0
      clear hW1 hW0
      generalize L[k]'(by omega) = x at *
      obtain ⟨cs, op⟩ := x
      have hlen : cs.length = 37 := by obtain ⟨_, _, _, _, _, _, h, _⟩ := hop0.row; exact h
      have hone := all_oneCell_toArray hop0.one
      have HOP := Lib.hid hop0
      have HR := Lib.hid hrow
      have HL := Lib.hid hlen
      have hll : l.length ≤ 40 * k + W0 := by have := HI.out.len; rw [HW0.out] at this; exact this
      have hopw : op.weight ≤ 5000 := by have hw' : W1 = W0 + op.weight := hw; omega
      have hob : wr.heap.size ≠ w3.heap.size := by have := (Array.getElem?_eq_some_iff.1 HI.out.row).1; omega
      clear hop0 hrow hlen
      have hd : decide ((k : Int) < (n0 : Int)) = true := by simp; omega
      go_wp2_with (first
        | refine wpList_load_mid rfl 28 _ rfl b (o + k * 37) rfl _ _ HR.out Try.underlying28 rfl (by rw [HL.out]; kernel_rfl) ?_
        | (refine wpList_store_mid rfl 28 _ _ rfl wr.heap.size 0 cs.toArray rfl rfl (there_alloc_new _ _ _ _ (by rw [Z37_size]; exact HL.out.symm)) (by show _ = some cs.length; rw [HL.out]; kernel_rfl) hone ?_
           have hst : ((wr.alloc (.cells Z37 28)).setCells wr.heap.size 0 cs.toArray.toList).heap[wr.heap.size]? = some (.cells cs.toArray 28 (0, 0)) ∧ Below wr.heap.size wr ((wr.alloc (.cells Z37 28)).setCells wr.heap.size 0 cs.toArray.toList) := alloc_stored wr Z37 _ cs wr.heap.size rfl (by rw [Z37_size]; exact HL.out.symm)
           generalize (wr.alloc (.cells Z37 28)).setCells wr.heap.size 0 cs.toArray.toList = w4 at *
           obtain ⟨hr4, hb4⟩ := hst
           have HB4 := Lib.hid hb4
           have HR4 := Lib.hid hr4
           have HOP4 := Lib.hid (HOP.out.below (HI.out.below.trans (hb4.mono HI.out.below.size)))
           obtain ⟨x0, x1, x2, _, _, _⟩ := rw_cells (Below.keepOld hb4 HI.out.row)
           have HRG : Hid (w4.rangeAt wr.heap.size 0 cs) := by obtain ⟨_, _, _, _, _, _, _, _, _, _, _, _, h, _⟩ := op_cells HOP4.out hr4; exact h
           clear hr4 hb4)
        | refine wpList_load_mid rfl 28 _ rfl wr.heap.size 0 rfl _ _ HRG.out Try.underlying28 rfl (by rw [HL.out]; kernel_rfl) ?_)
      have HWX : Hid (WAt w4 w1.heap.size v R l bad) := HI.out.wat.touch (Turns.of_below (S := fun _ => False) HB4.out) (fun _ _ h => h)
      refine (step_any R p n c l bad cs op w1.heap.size v w4 HWX.out (HI.out.bs.below HB4.out) (fun a ha => ⟨Nat.lt_of_lt_of_le (HI.out.apart a ha).1 HB4.out.size, (HI.out.apart a ha).2.1⟩)
        (fun w' ht => HOP.out.below ((HI.out.below.trans (HB4.out.mono HI.out.below.size)).trans (ht.below (Nat.le_trans HI.out.below.size HB4.out.size) (fun i hi => (HI.out.own i hi).1)))) (by omega) (by omega)).mono ?_
      rintro e w5 ⟨v5, p5, n5, c5, rfl, hsl⟩
      have hll5 := stepS_len R l bad op HOP.out
      obtain rfl : (stepS R l bad op).1.length = n5 := hsl.bs.length
      generalize stepS R l bad op = r5 at *
      obtain ⟨l5, bad5⟩ := r5
      clear x0 x1 x2
      have hr5 : w5.heap[w3.heap.size]? = some (.cells #[.int .i64 (R : Int), .slice p n c, .int .i64 bad] 48 (0, 0)) := hsl.turns.keep (Below.keepOld HB4.out HI.out.row) (fun h => (HI.out.own _ h).2 rfl)
      obtain ⟨x0, x1, x2, f0, f1, f2⟩ := rw_cells hr5
      have e6 := heap_setCell_same _ w3.heap.size 2 _ _ (.int .i64 bad5) (heap_setCell_same _ w3.heap.size 1 _ _ (.slice p5 l5.length c5) (heap_setCell_same _ w3.heap.size 0 _ _ (.int .i64 (R : Int)) hr5))
      have t6 := (((Turns.refl (fun i => i = w3.heap.size) w5).setCell (p := ⟨w3.heap.size, 0, none⟩) (fun _ => rfl) (.int .i64 (R : Int))).setCell (p := ⟨w3.heap.size, 1, none⟩) (fun _ => rfl) (.slice p5 l5.length c5)).setCell (p := ⟨w3.heap.size, 2, none⟩) (fun _ => rfl) (.int .i64 bad5)
      have E6 := Lib.hid e6
      have T6 := Lib.hid t6
      have HSL := Lib.hid hsl
      have HX5 := Lib.hid ((Array.getElem?_eq_some_iff.1 hr5).1)
      clear e6 t6 hsl hr5
      go_wp2_with fail
      generalize ((w5.setCell ⟨w3.heap.size, 0, none⟩ (.int .i64 (R : Int))).setCell ⟨w3.heap.size, 1, none⟩ (.slice p5 l5.length c5)).setCell ⟨w3.heap.size, 2, none⟩ (.int .i64 bad5) = w6 at *
      clear x0 x1 x2 f0 f1 f2
      have hne5 : ∀ i, foot w1.heap.size v5 i → ¬ i = w3.heap.size := fun i hi e => by
        rcases HSL.out.next i hi with h | h
        · exact (HI.out.own i h).2 e
        · have h1 := HB4.out.size; have h2 := (Array.getElem?_eq_some_iff.1 HI.out.row).1; omega
      have hp5 : ∀ a, p5 = some a → ¬ a.block = w3.heap.size := fun a ha e => by
        rcases HSL.out.nextp a ha with h | h
        · exact (HI.out.apart a h).2.2 e
        · have h1 := HB4.out.size; have h2 := (Array.getElem?_eq_some_iff.1 HI.out.row).1; omega
      have hb6 : Below w.heap.size w w6 := ((HI.out.below.trans (HB4.out.mono HI.out.below.size)).trans (HSL.out.turns.below (Nat.le_trans HI.out.below.size HB4.out.size) (fun i hi => (HI.out.own i hi).1))).trans (T6.out.below (by have h1 := HI.out.xlt; have h2 := HX5.out; omega) (fun i hi => by have h1 := HI.out.xlt; omega))
      have HI6 : Hid (WInv w L (k + 1) w6 w1.heap.size w3.heap.size v5 R l5 bad5 p5 l5.length c5) := by
        refine ⟨HSL.out.wat.touch T6.out hne5, ?_, HSL.out.bs.touch T6.out (fun a ha _ => hp5 a ha), fun a ha => ⟨?_, (HSL.out.apart a ha).2, hp5 a ha⟩, fun i hi => ⟨?_, hne5 i hi⟩, HI.out.xlt, ?_, hb6⟩
        · exact E6.out
        · have h1 := (HSL.out.apart a ha).1; have h2 := T6.out.size; omega
        · rcases HSL.out.next i hi with h | h
          · exact (HI.out.own i h).1
          · have h1 := HB4.out.size; have h2 := HI.out.below.size; omega
        · rw [HW1.out, hw]
          have h5 : l5.length ≤ l.length + op.weight + 32 := hll5
          have h6 : W1 = W0 + op.weight := hw
          show l5.length ≤ 40 * (k + 1) + (W0 + op.weight)
          omega
      have hl5 : l5.length ≤ 1073741824 := by have h5 : l5.length ≤ l.length + op.weight + 32 := hll5; omega
      clear hne5 hp5 hb6 hll5
      refine (Wr.done_any _ v5 R l5 bad5 w6 HI6.out.wat (by omega)).mono ?_
      rintro e w7 ⟨⟨q, m, d, rfl, ho7⟩, hb7⟩
      obtain ⟨x0, x1, x2, _, _, _⟩ := rw_cells (Below.keepOld hb7 HI6.out.row)
      have HO7 := Lib.hid ho7
      have HB7 := Lib.hid hb7
      clear ho7 hb7
      go_wp2_with fail
      refine (RW.done_any (R : Int) p5 l5.length c5 bad5 w7).mono ?_
      rintro e w8 ⟨rfl, hb8⟩
      clear x0 x1 x2
      have hb78 := HB7.out.trans (hb8.mono HB7.out.size)
      have HI8 : Hid (WInv w L (k + 1) w8 w1.heap.size w3.heap.size v5 R l5 bad5 p5 l5.length c5) :=
        ⟨HI6.out.wat.touch (Turns.of_below (S := fun _ => False) hb78) (fun _ _ h => h), Below.keepOld hb78 HI6.out.row, HI6.out.bs.below hb78, fun a ha => ⟨Nat.lt_of_lt_of_le (HI6.out.apart a ha).1 hb78.size, (HI6.out.apart a ha).2⟩, HI6.out.own, HI6.out.xlt, HI6.out.len, HI6.out.below.trans (hb78.mono HI6.out.below.size)⟩
      have ho8 : w8.ownsRow w6.heap.size 5 1 (.slice q m d) m (bytesV (if bad5 = 0 then l5 else [])) := own_touch HO7.out (Turns.of_below (S := fun _ => False) hb8) (fun _ _ h => h)
      obtain ⟨q', d', hq', hsq⟩ := own_sl ho8
      cases hq'
      obtain ⟨p9, n9, c9, he9, hbs9⟩ : ∃ p' n' c', (if bad5 = 0 then Value.tuple #[.slice p5 l5.length c5, .int .i64 0] else .tuple #[.slice none 0 0, .int .i64 bad5]) = .tuple #[.slice p' n' c', .int .i64 bad5] ∧ Bs w8 p' n' c' (if bad5 = 0 then l5 else []) := by
        by_cases hb0 : bad5 = 0
        · rw [if_pos hb0, if_pos hb0, hb0]; exact ⟨_, _, _, rfl, HI8.out.bs⟩
        · rw [if_neg hb0, if_neg hb0]; exact ⟨_, _, _, rfl, Sl.nil _ _⟩
      rw [he9]
      clear he9 hb78 hb8
      generalize (if bad5 = 0 then l5 else []) = X at *
      obtain ⟨x0, x1, x2, _, _, _⟩ := rw_cells HI8.out.row
      have hc1 : ∀ i, (convert 23 9 (.slice q m d)).run Try.prog (w8.drewN i) = .ok (.string (strOf X)) (w8.drewN i) := fun i => run_convert_bs _ _ _ Try.underlying23 Try.underlying5 Try.underlying9 (Bs.drewN hsq i)
      have hc2 : ∀ i, (convert 23 9 (.slice p9 n9 c9)).run Try.prog (w8.drewN i) = .ok (.string (strOf X)) (w8.drewN i) := fun i => run_convert_bs _ _ _ Try.underlying23 Try.underlying5 Try.underlying9 (Bs.drewN hbs9 i)
      have HO8 := Lib.hid ho8
      have HSQ := Lib.hid hsq
      have HB69 := Lib.hid HB7.out.size
      clear ho8 hsq hbs9
      go_wp2_with fail
      go_quiet ((first
        | (go_at_call 11; exact Calls.quiet_of_same ((Wr.len_any _ v5 R l5 bad5 (w8.drewN _) (HI8.out.wat.touch (S := fun _ => False) (Turns.of_below (drewN_below w8 _)) (fun _ _ h => h))).mono fun _ _ h => ⟨h.1, h.2.symm⟩))
        | (go_at_call 12; exact Calls.quiet_of_same ((Wr.err_any _ v5 R l5 bad5 (w8.drewN _) (HI8.out.wat.touch (S := fun _ => False) (Turns.of_below (drewN_below w8 _)) (fun _ _ h => h))).mono fun _ _ h => ⟨h.1, h.2.symm⟩))))
      have hb89 := drewN_below w8 nq
      have HI9 : Hid (WInv w L (k + 1) (w8.drewN nq) w1.heap.size w3.heap.size v5 R l5 bad5 p5 l5.length c5) :=
        ⟨HI8.out.wat.touch (Turns.of_below (S := fun _ => False) hb89) (fun _ _ h => h), Below.keepOld hb89 HI8.out.row, HI8.out.bs.below hb89, fun a ha => ⟨Nat.lt_of_lt_of_le (HI8.out.apart a ha).1 hb89.size, (HI8.out.apart a ha).2⟩, HI8.out.own, HI8.out.xlt, HI8.out.len, HI8.out.below.trans (hb89.mono HI8.out.below.size)⟩
      have ho9 : (w8.drewN nq).ownsRow w6.heap.size 5 1 (.slice q m d) m (bytesV X) := own_touch HO8.out (Turns.of_below (S := fun _ => False) hb89) (fun _ _ h => h)
      have HO9 := Lib.hid ho9
      have HXL : Hid (X.length = m) := Bs.length HSQ.out
      have hqle := HSQ.out.le
      have hqmax := HSQ.out.max
      clear hb89 ho9 x0 x1 x2 hc1 hc2
      generalize w8.drewN nq = w9 at *
      go_wp2
      go_loopw [69] (fun j wi => ∃ (i : Nat) (Y : List UInt8), i ≤ m ∧ j = .int .i64 i ∧ Y.length = m ∧ wi.ownsRow w6.heap.size 5 1 (.slice q m d) m (bytesV Y) ∧ Turns (fun x => (Value.slice q m d).ownBlock = some x) w9 wi) (fun j _ => m - (intOf j).toNat)
      case atStart => exact ⟨0, X, by omega, rfl, HXL.out, HO9.out, Turns.refl _ _⟩
      case round =>
        obtain ⟨i, Y, hi, rfl, hY, hoY, htY⟩ := hrel
        by_cases him : i < m
        · have hdi : decide ((i : Int) < (m : Int)) = true := by simp; omega
          obtain ⟨g, cap, hq, _⟩ := own_some hoY (fun e => by cases e; omega)
          cases hq
          have hcell := hoY.cellAt i (by omega)
          rw [bytesV_get Y i (by omega)] at hcell
          have hfz := hoY.frozenAt i
          have hst := hoY.stored i (.int .u8 ((Y[i]'(by omega)) + 1).toNat)
          have HST := Lib.hid hst
          have HTY := Lib.hid htY
          clear hoY htY hst
          go_wp2
          go_roundw
          case rel =>
            have hu : ((((Y[i]'(by omega)).toNat : Int) + 1) % 256) = (((Y[i]'(by omega)) + 1).toNat : Int) := by
              rw [UInt8.toNat_add]; simp
            rw [hu]
            refine ⟨i + 1, Y.set i ((Y[i]'(by omega)) + 1), by omega, by go_num, by simp [hY], ?_, ?_⟩
            · have h1 := HST.out.1
              rw [show bytesV (Y.set i ((Y[i]'(by omega)) + 1)) = (bytesV Y).set i (.int .u8 ((Y[i]'(by omega)) + 1).toNat) by simp [bytesV, List.map_set]]
              exact h1
            · exact HTY.out.setCell (p := ⟨g, i, none⟩) (fun _ => rfl) _
          case measure => simp [intOf]; omega
        · have hdi : decide ((i : Int) < (m : Int)) = false := by simp; omega
          have hqb := hoY.lt
          have HTY := Lib.hid htY
          have HQB : Hid (∀ x, (Value.slice q m d).ownBlock = some x → w6.heap.size ≤ x) := fun x hx => (hqb x hx).1
          have HI10 : Hid (WInv w L (k + 1) wr w1.heap.size w3.heap.size v5 R l5 bad5 p5 l5.length c5) := by
            have h6 := HI6.out.wat.lt
            have hx6 := (Array.getElem?_eq_some_iff.1 HI6.out.row).1
            refine ⟨HI9.out.wat.touch HTY.out (fun x hx e => ?_), HTY.out.keep HI9.out.row (fun e => ?_), HI9.out.bs.touch HTY.out (fun a ha _ e => ?_), fun a ha => ⟨Nat.lt_of_lt_of_le (HI9.out.apart a ha).1 HTY.out.size, (HI9.out.apart a ha).2⟩, HI9.out.own, HI9.out.xlt, HI9.out.len, HI9.out.below.trans (HTY.out.below HI9.out.below.size (fun x hx => ?_))⟩
            · have h1 := h6 x hx; have h2 := HQB.out x e; omega
            · have h2 := HQB.out _ e; omega
            · have h1 := (HI6.out.apart a ha).1; have h2 := HQB.out _ e; omega
            · have h1 := HQB.out x hx; have h2 := HI6.out.below.size; omega
          clear hoY htY hqb
          go_wp2
          go_roundw
          case rel => exact ⟨k + 1, v5, l5, bad5, p5, _, c5, by omega, by go_num, HI10.out⟩
          case measure => simp [intOf]; omega
    · have hd : decide ((k : Int) < (n0 : Int)) = false := by simp; omega
      go_wp2_with fail
      refine (alive_any _).mono ?_
      rintro e w9 ⟨rfl, hb9⟩
      have HB9 := Lib.hid (HI.out.below.trans (hb9.mono HI.out.below.size))
      clear hb9
      go_wp2_with fail
      go_ret
      exact ⟨rfl, HB9.out⟩

end Go.Proofs.Ythgaadnbmiekkaa.W10
