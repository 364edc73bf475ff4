/- THE WALKS OF A READER: a number; bytes; a count. Conditions: none. -/
import Derived.Test.YtdaigkcbmdcbcaaDoorRdr2
import Derived.Laws.BitsAllLaws
import Derived.Test.YtdaigkcbmdcbcaaDoorParts
namespace Go.Proofs.YtdaigkcbmdcbcaaDoor.Rdr
open Go.RowKit Go.Mir Go.Mir.Parts

/-! ### plain -/
def beN (l : List UInt8) : Nat := l.foldl (fun a b => 256 * a + b.toNat) 0
theorem beN_snoc (l : List UInt8) (b : UInt8) : beN (l ++ [b]) = 256 * beN l + b.toNat := by simp [beN, List.foldl_append]
theorem beN_lt_pow (l : List UInt8) : beN l < 256 ^ l.length := by
  suffices h : ∀ (a : Nat) (l : List UInt8), l.foldl (fun a b => 256 * a + b.toNat) a < (a + 1) * 256 ^ l.length by
    have := h 0 l
    rwa [Nat.zero_add, Nat.one_mul] at this
  intro a l
  induction l generalizing a with
  | nil => simp
  | cons b l ih =>
    have h1 := ih (256 * a + b.toNat)
    have h2 := b.toNat_lt
    have h3 : (256 * a + b.toNat + 1) * 256 ^ l.length ≤ ((a + 1) * 256) * 256 ^ l.length := Nat.mul_le_mul_right _ (by omega)
    rw [List.foldl_cons, List.length_cons, Nat.pow_succ, Nat.mul_comm (256 ^ l.length) 256, ← Nat.mul_assoc]
    omega
theorem beN_lt (l : List UInt8) (h : l.length ≤ 8) : beN l < 18446744073709551616 := by
  have h1 := beN_lt_pow l
  have h2 : 256 ^ l.length ≤ 256 ^ 8 := Nat.pow_le_pow_right (by omega) h
  have h3 : (256 : Nat) ^ 8 = 18446744073709551616 := by decide
  omega
theorem or_byte (x b : Nat) (hb : b < 256) : (256 * x ||| b) = 256 * x + b := by
  have := Nat.two_pow_add_eq_or_of_lt (i := 8) (b := b) (by omega) x
  rw [show (2 : Nat) ^ 8 = 256 from rfl] at this
  exact this.symm
def fitsW (n : Int) : Bool := decide (1 ≤ n) && decide (n ≤ 8)
def RD.numV (s : RD) (n : Int) : Nat := beN (s.takeB n (fitsW n))
def RD.numS (s : RD) (n : Int) : RD := s.takeS n (fitsW n)
theorem takeB_len (s : RD) (n : Int) (fits : Bool) : ((s.takeB n fits).length : Int) ≤ (if 0 ≤ n then n else 0) := by
  unfold RD.takeB
  split
  · rename_i h
    rw [List.length_take, if_pos h.2.2.1]
    omega
  · split <;> simp <;> omega
theorem takeW_len (s : RD) (n : Int) : (s.takeB n (fitsW n)).length ≤ 8 := by
  unfold RD.takeB
  split
  · rename_i h
    have h2 := h.2.1
    simp [fitsW] at h2
    rw [List.length_take]
    omega
  · simp
def NumP (base rb : Nat) (s : RD) (n : Int) (w : World) (e : Ending) (w' : World) : Prop := e = .returned (.int .u64 (s.numV n : Int)) ∧ LeftR base rb (s.numS n) w w'

set_option maxRecDepth 100000 in
set_option maxHeartbeats 1600000 in
theorem num_any {base rb : Nat} {s : RD} (w : World) (h : RAt w base rb s) (n : Int) (hn : -9223372036854775808 ≤ n ∧ n ≤ 9223372036854775807) :
    Calls Tryd.prog 47 #[.pointer (some ⟨rb, 0, none⟩), .int .i64 n] w (NumP base rb s n w) := by
  have HT := Lib.hid (take_any w h n hn (fitsW n))
  have HF : Hid (∀ w', LeftR base rb (s.numS n) w w' → NumP base rb s n w (.returned (.int .u64 (s.numV n : Int))) w') := fun w' hl => ⟨rfl, hl⟩
  have hl8 := takeW_len s n
  clear h
  generalize hfw : fitsW n = fw at *
  have hnumS : s.numS n = s.takeS n fw := by unfold RD.numS; rw [hfw]
  have hnumV : s.numV n = beN (s.takeB n fw) := by unfold RD.numV; rw [hfw]
  rw [hnumS, hnumV] at HF
  generalize hL : s.takeB n fw = L at *
  have HLE := Lib.hid hL
  clear hL hnumS hnumV
  have hmain : ∀ a b : Bool, decide ((1 : Int) ≤ n) = a → decide (n ≤ 8) = b → fw = (a && b) → Calls Tryd.prog 47 #[.pointer (some ⟨rb, 0, none⟩), .int .i64 n] w (NumP base rb s n w) := by
    intro a b ha hb hab
    have HAB := Lib.hid hab
    clear hab
    cases a with
    | true =>
      obtain rfl : fw = b := HAB.out
      go_enter Tryd.func47, Tryd.ntmps47
      go_wp2_with fail
      refine HT.out.mono ?_
      rintro e w1 ⟨p, c, rfl, hbs, hl⟩
      rw [HLE.out] at hbs ⊢
      have HFIN := Lib.hid (HF.out _ hl)
      clear hl
      generalize hLn : L.length = m at *
      have HLN := Lib.hid hLn
      clear hLn
      have hle := hbs.le
      have hmax := hbs.max
      have HBS := Lib.hid hbs
      clear hbs
      go_wp2_with fail
      go_loop [5, 18] (fun x j => ∃ k : Nat, k ≤ m ∧ j = .int .i64 k ∧ x = .int .u64 (beN (L.take k) : Nat)) (fun _ j => m - (intOf j).toNat)
      case atStart => exact ⟨0, by omega, rfl, rfl⟩
      case round =>
        obtain ⟨k, hk, rfl, rfl⟩ := hrel
        have HLN := HLN
        by_cases hlt : k < m
        · have hd : decide ((k:Int) < m) = true := by simp; omega
          obtain ⟨b', o', rfl⟩ := HBS.out.addr (by omega) (by omega)
          have hc' := HBS.out.byte (j := k) (by rw [HLN.out]; omega)
          have hti := take_snoc L k (by rw [HLN.out]; omega)
          have hyl : L[k]'(by rw [HLN.out]; omega) = L[k]'(by rw [HLN.out]; omega) := rfl
          have hbe := beN_snoc (L.take k) (L[k]'(by rw [HLN.out]; omega))
          rw [← hti] at hbe
          have hb1 := beN_lt (L.take (k + 1)) (by rw [List.length_take, HLN.out]; omega)
          generalize hly : L[k]'(by rw [HLN.out]; omega) = y at *
          clear hly hyl hti
          have hll : y.toNat < 256 := y.toNat_lt
          generalize hB : beN (L.take k) = B at *
          generalize hB2 : beN (L.take (k + 1)) = B2 at *
          have HB2 := Lib.hid hB2
          have HBE := Lib.hid hbe
          have hw : IntKind.u64.wrap ((B : Int) * 256) = ((256 * B : Nat) : Int) := by
            rw [IntKind.wrap_u64]
            omega
          have hor : bits .or .u64 ((256 * B : Nat) : Int) ((y.toNat : Nat) : Int) = (B2 : Int) := by
            rw [u64_or_nat _ _ (by omega) (by omega), or_byte _ _ hll, hbe]
          have HOR := Lib.hid hor
          have HW := Lib.hid hw
          clear hB hB2 hbe hor hw
          go_wp2_with fail
          go_round
          case rel =>
            exact ⟨k + 1, by omega, by go_num, by rw [HW.out, HOR.out, HB2.out]⟩
          case measure => simp [intOf]; omega
        · obtain rfl : k = m := by omega
          rw [← HLN.out, List.take_length]
          go_wp2_with fail
          go_ret
          exact HFIN.out
    | false =>
      obtain rfl : fw = false := HAB.out
      clear hb
      go_enter Tryd.func47, Tryd.ntmps47
      go_wp2_with fail
      refine HT.out.mono ?_
      rintro e w1 ⟨p, c, rfl, hbs, hl⟩
      rw [HLE.out] at hbs ⊢
      have HFIN := Lib.hid (HF.out _ hl)
      clear hl
      generalize hLn : L.length = m at *
      have HLN := Lib.hid hLn
      clear hLn
      have hle := hbs.le
      have hmax := hbs.max
      have HBS := Lib.hid hbs
      clear hbs
      go_wp2_with fail
      go_loop [5, 18] (fun x j => ∃ k : Nat, k ≤ m ∧ j = .int .i64 k ∧ x = .int .u64 (beN (L.take k) : Nat)) (fun _ j => m - (intOf j).toNat)
      case atStart => exact ⟨0, by omega, rfl, rfl⟩
      case round =>
        obtain ⟨k, hk, rfl, rfl⟩ := hrel
        have HLN := HLN
        by_cases hlt : k < m
        · have hd : decide ((k:Int) < m) = true := by simp; omega
          obtain ⟨b', o', rfl⟩ := HBS.out.addr (by omega) (by omega)
          have hc' := HBS.out.byte (j := k) (by rw [HLN.out]; omega)
          have hti := take_snoc L k (by rw [HLN.out]; omega)
          have hyl : L[k]'(by rw [HLN.out]; omega) = L[k]'(by rw [HLN.out]; omega) := rfl
          have hbe := beN_snoc (L.take k) (L[k]'(by rw [HLN.out]; omega))
          rw [← hti] at hbe
          have hb1 := beN_lt (L.take (k + 1)) (by rw [List.length_take, HLN.out]; omega)
          generalize hly : L[k]'(by rw [HLN.out]; omega) = y at *
          clear hly hyl hti
          have hll : y.toNat < 256 := y.toNat_lt
          generalize hB : beN (L.take k) = B at *
          generalize hB2 : beN (L.take (k + 1)) = B2 at *
          have HB2 := Lib.hid hB2
          have HBE := Lib.hid hbe
          have hw : IntKind.u64.wrap ((B : Int) * 256) = ((256 * B : Nat) : Int) := by
            rw [IntKind.wrap_u64]
            omega
          have hor : bits .or .u64 ((256 * B : Nat) : Int) ((y.toNat : Nat) : Int) = (B2 : Int) := by
            rw [u64_or_nat _ _ (by omega) (by omega), or_byte _ _ hll, hbe]
          have HOR := Lib.hid hor
          have HW := Lib.hid hw
          clear hB hB2 hbe hor hw
          go_wp2_with fail
          go_round
          case rel =>
            exact ⟨k + 1, by omega, by go_num, by rw [HW.out, HOR.out, HB2.out]⟩
          case measure => simp [intOf]; omega
        · obtain rfl : k = m := by omega
          rw [← HLN.out, List.take_length]
          go_wp2_with fail
          go_ret
          exact HFIN.out
  exact hmain _ _ rfl rfl (by rw [← hfw]; rfl)

def BytesP (base rb : Nat) (s : RD) (n : Int) (w : World) (e : Ending) (w' : World) : Prop :=
  ∃ p c, e = .returned (.slice p (s.takeB n true).length c) ∧ w'.ownsRow w.heap.size 5 1 (.slice p (s.takeB n true).length c) (s.takeB n true).length (bytesV (s.takeB n true)) ∧ LeftR base rb (s.takeS n true) w w'
set_option maxRecDepth 100000 in
theorem bytes_any {base rb : Nat} {s : RD} (w : World) (h : RAt w base rb s) (n : Int) (hn : -9223372036854775808 ≤ n ∧ n ≤ 9223372036854775807) :
    Calls Tryd.prog 62 #[.pointer (some ⟨rb, 0, none⟩), .int .i64 n] w (BytesP base rb s n w) := by
  have HT := Lib.hid (take_any w h n hn true)
  have hl47 : (s.takeB n true).length ≤ 140737488355328 := by
    obtain ⟨v, bv, h⟩ := h
    have h1 := h.len
    unfold RD.takeB
    split
    · rw [List.length_take, List.length_drop]; omega
    · simp
  clear h
  go_enter Tryd.func62, Tryd.ntmps62
  go_wp2_with fail
  refine HT.out.mono ?_
  rintro e w1 ⟨p, c, rfl, hbs, hl⟩
  have HL := Lib.hid hl
  clear hl
  have HF : Hid (∀ p' c' w', w'.ownsRow w1.heap.size 5 1 (.slice p' (s.takeB n true).length c') (s.takeB n true).length (bytesV (s.takeB n true)) → Below w1.heap.size w1 w' → BytesP base rb s n w (.returned (.slice p' (s.takeB n true).length c')) w') := fun p' c' w' ho hb =>
    ⟨p', c', rfl, own_base ho (fun k hk => Nat.le_trans HL.out.2.size (by
      rcases ho.2 with ⟨h1, _⟩ | ⟨g, cap, cur, h1, h2, _⟩
      · rw [h1] at hk; cases hk
      · rw [h1] at hk; simp [Value.ownBlock] at hk; omega)), HL.out.trans (LeftR.same HL.out.1 hb)⟩
  generalize s.takeB n true = L at *
  generalize hm : L.length = m at *
  clear hm
  have hle := hbs.le
  have hmax := hbs.max
  have HBS := Lib.hid hbs
  clear hbs
  go_wp2_with (refine wpList_append_nx rfl _ _ 29 rfl (base := w1.heap.size) Tryd.underlying29 info8 rfl (by omega) rfl (World.ownsRow_nil _ _ _ _) rfl HBS.out (bytesV_one _) ⟨by omega, by omega⟩ (Nat.le_refl _) ?_)
  intro p9 c9 w9 ho9 hg9 _ _
  have HX := Lib.hid (HF.out p9 c9 w9 (by simpa using ho9) ((Below.refl _ _).grown hg9 (Nat.le_refl _) (fun k hk => by simp [Value.ownBlock] at hk)))
  clear ho9 hg9
  go_wp2_with fail
  go_ret
  exact HX.out

def RD.cntS (s : RD) (width most : Int) : RD := if most < 0 ∨ most < (s.numV width : Int) then (s.numS width).fail 4 else s.numS width
def RD.cntV (s : RD) (width most : Int) : Int := if (s.cntS width most).bad = none then (s.numV width : Int) else 0
def CountP (base rb : Nat) (s : RD) (n m : Int) (w : World) (e : Ending) (w' : World) : Prop := e = .returned (.int .i64 (s.cntV n m)) ∧ LeftR base rb (s.cntS n m) w w'
theorem numV_lt (s : RD) (n : Int) : s.numV n < 18446744073709551616 := beN_lt _ (takeW_len s n)
theorem RAt.cells {w : World} {base rb : Nat} {s : RD} (h : RAt w base rb s) : ∃ bv, w.cell? ⟨rb, 3, none⟩ = some bv ∧ FaultAt w base s.bad bv := by
  obtain ⟨v, bv, h⟩ := h
  exact ⟨bv, h.cells.2.2.2.1, h.fault⟩
set_option maxRecDepth 100000 in
theorem count_any {base rb : Nat} {s : RD} (w : World) (h : RAt w base rb s) (n : Int) (hn : -9223372036854775808 ≤ n ∧ n ≤ 9223372036854775807) (m : Int) (hm : -9223372036854775808 ≤ m ∧ m ≤ 9223372036854775807) :
    Calls Tryd.prog 38 #[.pointer (some ⟨rb, 0, none⟩), .int .i64 n, .int .i64 m] w (CountP base rb s n m w) := by
  have HT := Lib.hid (num_any w h n hn)
  clear h
  have hlt := numV_lt s n
  by_cases hbad : m < 0 ∨ m < (s.numV n : Int)
  · have HF : Hid (∀ w', LeftR base rb ((s.numS n).fail 4) w w' → CountP base rb s n m w (.returned (.int .i64 0)) w') := fun w' hl => by
      have h1 : s.cntS n m = (s.numS n).fail 4 := by unfold RD.cntS; rw [if_pos hbad]
      have h2 : s.cntV n m = 0 := by
        unfold RD.cntV
        rw [h1, if_neg]
        unfold RD.fail
        split
        · simp
        · rename_i h; intro h'; exact h ⟨h', by decide⟩
      exact ⟨by rw [h2], by rw [h1]; exact hl⟩
    have HBN : Hid (((s.numS n).fail 4).bad ≠ none) := by
      show _ ≠ _
      unfold RD.fail
      split
      · simp
      · rename_i h; intro h'; exact h ⟨h', by decide⟩
    generalize hV : s.numV n = V at *
    have HV := Lib.hid hV
    clear hV
    by_cases hneg : m < 0
    · have hd : decide (m < 0) = true := decide_eq_true hneg
      clear hbad
      go_enter Tryd.func38, Tryd.ntmps38
      go_wp2_with fail
      refine HT.out.mono ?_
      rintro e w1 ⟨rfl, hl⟩
      have HL := Lib.hid hl
      have HFL := Lib.hid (fail_any w1 hl.1 4 (by omega))
      rw [HV.out]
      clear hl
      go_wp2_with fail
      refine HFL.out.mono ?_
      rintro e w2 ⟨rfl, hl2⟩
      obtain ⟨bv, hc3, hfa⟩ := hl2.1.cells
      obtain ⟨b, hbb⟩ := Option.ne_none_iff_exists'.1 HBN.out
      rw [hbb] at hfa
      obtain ⟨_, _, fb, a0, rfl, _⟩ := hfa
      have HR2 := Lib.hid hl2.1
      have HFIN := Lib.hid (HF.out _ (HL.out.trans hl2))
      clear hl2 hbb
      go_wp2_with fail
      refine (none_any w2 HR2.out).mono ?_
      rintro e w3 ⟨rfl, rfl⟩
      go_wp2_with fail
      go_ret
      exact HFIN.out
    · have hd : decide (m < 0) = false := decide_eq_false hneg
      obtain ⟨M, rfl⟩ : ∃ M : Nat, m = (M : Int) := ⟨m.toNat, by omega⟩
      have hMV : M < V := by omega
      have hd2 : decide ((M : Int) < (V : Int)) = true := decide_eq_true (by omega)
      have hwm : IntKind.u64.wrap (M : Int) = (M : Int) := by rw [IntKind.wrap_u64]; omega
      clear hbad
      go_enter Tryd.func38, Tryd.ntmps38
      go_wp2_with fail
      refine HT.out.mono ?_
      rintro e w1 ⟨rfl, hl⟩
      have HL := Lib.hid hl
      have HFL := Lib.hid (fail_any w1 hl.1 4 (by omega))
      rw [HV.out]
      clear hl
      go_wp2_with fail
      refine HFL.out.mono ?_
      rintro e w2 ⟨rfl, hl2⟩
      obtain ⟨bv, hc3, hfa⟩ := hl2.1.cells
      obtain ⟨b, hbb⟩ := Option.ne_none_iff_exists'.1 HBN.out
      rw [hbb] at hfa
      obtain ⟨_, _, fb, a0, rfl, _⟩ := hfa
      have HR2 := Lib.hid hl2.1
      have HFIN := Lib.hid (HF.out _ (HL.out.trans hl2))
      clear hl2 hbb
      go_wp2_with fail
      refine (none_any w2 HR2.out).mono ?_
      rintro e w3 ⟨rfl, rfl⟩
      go_wp2_with fail
      go_ret
      exact HFIN.out
  · have hS : s.cntS n m = s.numS n := by unfold RD.cntS; rw [if_neg hbad]
    have hVV : s.cntV n m = if (s.numS n).bad = none then (s.numV n : Int) else 0 := by unfold RD.cntV; rw [hS]
    have HF : Hid (∀ w', LeftR base rb (s.numS n) w w' → CountP base rb s n m w (.returned (.int .i64 (if (s.numS n).bad = none then (s.numV n : Int) else 0))) w') := fun w' hl => ⟨by rw [hVV], by rw [hS]; exact hl⟩
    generalize hV : s.numV n = V at *
    have HV := Lib.hid hV
    have hneg : ¬ m < 0 := fun h => hbad (.inl h)
    have hd : decide (m < 0) = false := decide_eq_false hneg
    obtain ⟨M, rfl⟩ : ∃ M : Nat, m = (M : Int) := ⟨m.toNat, by omega⟩
    have hMV : V ≤ M := by omega
    have hd2 : decide ((M : Int) < (V : Int)) = false := decide_eq_false (by omega)
    have hwm : IntKind.u64.wrap (M : Int) = (M : Int) := by rw [IntKind.wrap_u64]; omega
    have hwv : IntKind.i64.wrap (V : Int) = (V : Int) := IntWalk.i64_in _ (by omega)
    clear hbad hS hVV hV
    cases hbad : (s.numS n).bad with
    | none =>
      rw [hbad, if_pos rfl] at HF
      have HBAD := Lib.hid hbad
      clear hbad
      go_enter Tryd.func38, Tryd.ntmps38
      go_wp2_with fail
      refine HT.out.mono ?_
      rintro e w1 ⟨rfl, hl⟩
      rw [HV.out]
      obtain ⟨bv, hc3, hfa⟩ := hl.1.cells
      rw [HBAD.out] at hfa
      obtain rfl : bv = .nilIface := hfa
      have HR2 := Lib.hid hl.1
      have HFIN := Lib.hid (HF.out _ hl)
      clear hl
      go_wp2_with fail
      refine (none_any w1 HR2.out).mono ?_
      rintro e w3 ⟨rfl, rfl⟩
      go_wp2_with fail
      go_ret
      exact HFIN.out
    | some b =>
      rw [hbad, if_neg (by simp)] at HF
      have HBAD := Lib.hid hbad
      clear hbad
      go_enter Tryd.func38, Tryd.ntmps38
      go_wp2_with fail
      refine HT.out.mono ?_
      rintro e w1 ⟨rfl, hl⟩
      rw [HV.out]
      obtain ⟨bv, hc3, hfa⟩ := hl.1.cells
      rw [HBAD.out] at hfa
      obtain ⟨_, _, fb, a0, rfl, _⟩ := hfa
      have HR2 := Lib.hid hl.1
      have HFIN := Lib.hid (HF.out _ hl)
      clear hl
      go_wp2_with fail
      refine (none_any w1 HR2.out).mono ?_
      rintro e w3 ⟨rfl, rfl⟩
      go_wp2_with fail
      go_ret
      exact HFIN.out
end Go.Proofs.YtdaigkcbmdcbcaaDoor.Rdr
