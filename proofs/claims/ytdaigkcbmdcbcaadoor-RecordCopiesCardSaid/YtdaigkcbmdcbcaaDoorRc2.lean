/- PARTS, JOINED: THE WALKS OF A READER: a number; bytes; a count. Conditions: none. A REGION THAT DRAWS ITS ORDER, WALKED IN ONE ORDER, WHOSE LAST OPERATIONS MAY TURN WHAT THE EARLIER ONES READ. No program is named. Conditions: none. THE WALKS OF A READER: an id; a hint. Conditions: none. THE WALKS OF A READER: ids. Conditions: none. -/
import Derived.Test.YtdaigkcbmdcbcaaDoorRc1
import Derived.Laws.BitsAllLaws
import Derived.Deep.MidRow
namespace Go.Proofs.YtdaigkcbmdcbcaaDoor.Rdr
open Go.RowKit Go.Mir Go.Mir.Parts

/-! ### plain -/
def beN (l : List UInt8) : Nat := l.foldl (fun a b => 256 * a + b.toNat) 0
theorem beN_snoc (l : List UInt8) (b : UInt8) : beN (l ++ [b]) = 256 * beN l + b.toNat := by simp [beN, List.foldl_append]
theorem beN_lt_pow (l : List UInt8) : beN l < 256 ^ l.length := by
  suffices h : ∀ (a : Nat) (l : List UInt8), l.foldl (fun a b => 256 * a + b.toNat) a < (a + 1) * 256 ^ l.length by
    have := h 0 l
    rwa [Nat.zero_add, Nat.one_mul] at this
  intro a l
  induction l generalizing a with
  | nil => simp
  | cons b l ih =>
    have h1 := ih (256 * a + b.toNat)
    have h2 := b.toNat_lt
    have h3 : (256 * a + b.toNat + 1) * 256 ^ l.length ≤ ((a + 1) * 256) * 256 ^ l.length := Nat.mul_le_mul_right _ (by omega)
    rw [List.foldl_cons, List.length_cons, Nat.pow_succ, Nat.mul_comm (256 ^ l.length) 256, ← Nat.mul_assoc]
    omega
theorem beN_lt (l : List UInt8) (h : l.length ≤ 8) : beN l < 18446744073709551616 := by
  have h1 := beN_lt_pow l
  have h2 : 256 ^ l.length ≤ 256 ^ 8 := Nat.pow_le_pow_right (by omega) h
  have h3 : (256 : Nat) ^ 8 = 18446744073709551616 := by decide
  omega
theorem or_byte (x b : Nat) (hb : b < 256) : (256 * x ||| b) = 256 * x + b := by
  have := Nat.two_pow_add_eq_or_of_lt (i := 8) (b := b) (by omega) x
  rw [show (2 : Nat) ^ 8 = 256 from rfl] at this
  exact this.symm
def fitsW (n : Int) : Bool := decide (1 ≤ n) && decide (n ≤ 8)
def RD.numV (s : RD) (n : Int) : Nat := beN (s.takeB n (fitsW n))
def RD.numS (s : RD) (n : Int) : RD := s.takeS n (fitsW n)
theorem takeB_len (s : RD) (n : Int) (fits : Bool) : ((s.takeB n fits).length : Int) ≤ (if 0 ≤ n then n else 0) := by
  unfold RD.takeB
  split
  · rename_i h
    rw [List.length_take, if_pos h.2.2.1]
    omega
  · split <;> simp <;> omega
theorem takeW_len (s : RD) (n : Int) : (s.takeB n (fitsW n)).length ≤ 8 := by
  unfold RD.takeB
  split
  · rename_i h
    have h2 := h.2.1
    simp [fitsW] at h2
    rw [List.length_take]
    omega
  · simp
def NumP (base rb : Nat) (s : RD) (n : Int) (w : World) (e : Ending) (w' : World) : Prop := e = .returned (.int .u64 (s.numV n : Int)) ∧ LeftR base rb (s.numS n) w w'

set_option maxRecDepth 100000 in
set_option maxHeartbeats 1600000 in
theorem num_any {base rb : Nat} {s : RD} (w : World) (h : RAt w base rb s) (n : Int) (hn : -9223372036854775808 ≤ n ∧ n ≤ 9223372036854775807) :
    Calls Tryd.prog 47 #[.pointer (some ⟨rb, 0, none⟩), .int .i64 n] w (NumP base rb s n w) := by
  have HT := Lib.hid (take_any w h n hn (fitsW n))
  have HF : Hid (∀ w', LeftR base rb (s.numS n) w w' → NumP base rb s n w (.returned (.int .u64 (s.numV n : Int))) w') := fun w' hl => ⟨rfl, hl⟩
  have hl8 := takeW_len s n
  clear h
  generalize hfw : fitsW n = fw at *
  have hnumS : s.numS n = s.takeS n fw := by unfold RD.numS; rw [hfw]
  have hnumV : s.numV n = beN (s.takeB n fw) := by unfold RD.numV; rw [hfw]
  rw [hnumS, hnumV] at HF
  generalize hL : s.takeB n fw = L at *
  have HLE := Lib.hid hL
  clear hL hnumS hnumV
  have hmain : ∀ a b : Bool, decide ((1 : Int) ≤ n) = a → decide (n ≤ 8) = b → fw = (a && b) → Calls Tryd.prog 47 #[.pointer (some ⟨rb, 0, none⟩), .int .i64 n] w (NumP base rb s n w) := by
    intro a b ha hb hab
    have HAB := Lib.hid hab
    clear hab
    cases a with
    | true =>
      obtain rfl : fw = b := HAB.out
      go_enter Tryd.func47, Tryd.ntmps47
      go_wp2_with fail
      refine HT.out.mono ?_
      rintro e w1 ⟨p, c, rfl, hbs, hl⟩
      rw [HLE.out] at hbs ⊢
      have HFIN := Lib.hid (HF.out _ hl)
      clear hl
      generalize hLn : L.length = m at *
      have HLN := Lib.hid hLn
      clear hLn
      have hle := hbs.le
      have hmax := hbs.max
      have HBS := Lib.hid hbs
      clear hbs
      go_wp2_with fail
      go_loop [5, 18] (fun x j => ∃ k : Nat, k ≤ m ∧ j = .int .i64 k ∧ x = .int .u64 (beN (L.take k) : Nat)) (fun _ j => m - (intOf j).toNat)
      case atStart => exact ⟨0, by omega, rfl, rfl⟩
      case round =>
        obtain ⟨k, hk, rfl, rfl⟩ := hrel
        have HLN := HLN
        by_cases hlt : k < m
        · have hd : decide ((k:Int) < m) = true := by simp; omega
          obtain ⟨b', o', rfl⟩ := HBS.out.addr (by omega) (by omega)
          have hc' := HBS.out.byte (j := k) (by rw [HLN.out]; omega)
          have hti := take_snoc L k (by rw [HLN.out]; omega)
          have hyl : L[k]'(by rw [HLN.out]; omega) = L[k]'(by rw [HLN.out]; omega) := rfl
          have hbe := beN_snoc (L.take k) (L[k]'(by rw [HLN.out]; omega))
          rw [← hti] at hbe
          have hb1 := beN_lt (L.take (k + 1)) (by rw [List.length_take, HLN.out]; omega)
          generalize hly : L[k]'(by rw [HLN.out]; omega) = y at *
          clear hly hyl hti
          have hll : y.toNat < 256 := y.toNat_lt
          generalize hB : beN (L.take k) = B at *
          generalize hB2 : beN (L.take (k + 1)) = B2 at *
          have HB2 := Lib.hid hB2
          have HBE := Lib.hid hbe
          have hw : IntKind.u64.wrap ((B : Int) * 256) = ((256 * B : Nat) : Int) := by
            rw [IntKind.wrap_u64]
            omega
          have hor : bits .or .u64 ((256 * B : Nat) : Int) ((y.toNat : Nat) : Int) = (B2 : Int) := by
            rw [u64_or_nat _ _ (by omega) (by omega), or_byte _ _ hll, hbe]
          have HOR := Lib.hid hor
          have HW := Lib.hid hw
          clear hB hB2 hbe hor hw
          go_wp2_with fail
          go_round
          case rel =>
            exact ⟨k + 1, by omega, by go_num, by rw [HW.out, HOR.out, HB2.out]⟩
          case measure => simp [intOf]; omega
        · obtain rfl : k = m := by omega
          rw [← HLN.out, List.take_length]
          go_wp2_with fail
          go_ret
          exact HFIN.out
    | false =>
      obtain rfl : fw = false := HAB.out
      clear hb
      go_enter Tryd.func47, Tryd.ntmps47
      go_wp2_with fail
      refine HT.out.mono ?_
      rintro e w1 ⟨p, c, rfl, hbs, hl⟩
      rw [HLE.out] at hbs ⊢
      have HFIN := Lib.hid (HF.out _ hl)
      clear hl
      generalize hLn : L.length = m at *
      have HLN := Lib.hid hLn
      clear hLn
      have hle := hbs.le
      have hmax := hbs.max
      have HBS := Lib.hid hbs
      clear hbs
      go_wp2_with fail
      go_loop [5, 18] (fun x j => ∃ k : Nat, k ≤ m ∧ j = .int .i64 k ∧ x = .int .u64 (beN (L.take k) : Nat)) (fun _ j => m - (intOf j).toNat)
      case atStart => exact ⟨0, by omega, rfl, rfl⟩
      case round =>
        obtain ⟨k, hk, rfl, rfl⟩ := hrel
        have HLN := HLN
        by_cases hlt : k < m
        · have hd : decide ((k:Int) < m) = true := by simp; omega
          obtain ⟨b', o', rfl⟩ := HBS.out.addr (by omega) (by omega)
          have hc' := HBS.out.byte (j := k) (by rw [HLN.out]; omega)
          have hti := take_snoc L k (by rw [HLN.out]; omega)
          have hyl : L[k]'(by rw [HLN.out]; omega) = L[k]'(by rw [HLN.out]; omega) := rfl
          have hbe := beN_snoc (L.take k) (L[k]'(by rw [HLN.out]; omega))
          rw [← hti] at hbe
          have hb1 := beN_lt (L.take (k + 1)) (by rw [List.length_take, HLN.out]; omega)
          generalize hly : L[k]'(by rw [HLN.out]; omega) = y at *
          clear hly hyl hti
          have hll : y.toNat < 256 := y.toNat_lt
          generalize hB : beN (L.take k) = B at *
          generalize hB2 : beN (L.take (k + 1)) = B2 at *
          have HB2 := Lib.hid hB2
          have HBE := Lib.hid hbe
          have hw : IntKind.u64.wrap ((B : Int) * 256) = ((256 * B : Nat) : Int) := by
            rw [IntKind.wrap_u64]
            omega
          have hor : bits .or .u64 ((256 * B : Nat) : Int) ((y.toNat : Nat) : Int) = (B2 : Int) := by
            rw [u64_or_nat _ _ (by omega) (by omega), or_byte _ _ hll, hbe]
          have HOR := Lib.hid hor
          have HW := Lib.hid hw
          clear hB hB2 hbe hor hw
          go_wp2_with fail
          go_round
          case rel =>
            exact ⟨k + 1, by omega, by go_num, by rw [HW.out, HOR.out, HB2.out]⟩
          case measure => simp [intOf]; omega
        · obtain rfl : k = m := by omega
          rw [← HLN.out, List.take_length]
          go_wp2_with fail
          go_ret
          exact HFIN.out
  exact hmain _ _ rfl rfl (by rw [← hfw]; rfl)

def BytesP (base rb : Nat) (s : RD) (n : Int) (w : World) (e : Ending) (w' : World) : Prop :=
  ∃ p c, e = .returned (.slice p (s.takeB n true).length c) ∧ w'.ownsRow w.heap.size 5 1 (.slice p (s.takeB n true).length c) (s.takeB n true).length (bytesV (s.takeB n true)) ∧ LeftR base rb (s.takeS n true) w w'
set_option maxRecDepth 100000 in
theorem bytes_any {base rb : Nat} {s : RD} (w : World) (h : RAt w base rb s) (n : Int) (hn : -9223372036854775808 ≤ n ∧ n ≤ 9223372036854775807) :
    Calls Tryd.prog 62 #[.pointer (some ⟨rb, 0, none⟩), .int .i64 n] w (BytesP base rb s n w) := by
  have HT := Lib.hid (take_any w h n hn true)
  have hl47 : (s.takeB n true).length ≤ 140737488355328 := by
    obtain ⟨v, bv, h⟩ := h
    have h1 := h.len
    unfold RD.takeB
    split
    · rw [List.length_take, List.length_drop]; omega
    · simp
  clear h
  go_enter Tryd.func62, Tryd.ntmps62
  go_wp2_with fail
  refine HT.out.mono ?_
  rintro e w1 ⟨p, c, rfl, hbs, hl⟩
  have HL := Lib.hid hl
  clear hl
  have HF : Hid (∀ p' c' w', w'.ownsRow w1.heap.size 5 1 (.slice p' (s.takeB n true).length c') (s.takeB n true).length (bytesV (s.takeB n true)) → Below w1.heap.size w1 w' → BytesP base rb s n w (.returned (.slice p' (s.takeB n true).length c')) w') := fun p' c' w' ho hb =>
    ⟨p', c', rfl, own_base ho (fun k hk => Nat.le_trans HL.out.2.size (by
      rcases ho.2 with ⟨h1, _⟩ | ⟨g, cap, cur, h1, h2, _⟩
      · rw [h1] at hk; cases hk
      · rw [h1] at hk; simp [Value.ownBlock] at hk; omega)), HL.out.trans (LeftR.same HL.out.1 hb)⟩
  generalize s.takeB n true = L at *
  generalize hm : L.length = m at *
  clear hm
  have hle := hbs.le
  have hmax := hbs.max
  have HBS := Lib.hid hbs
  clear hbs
  go_wp2_with (refine wpList_append_nx rfl _ _ 29 rfl (base := w1.heap.size) Tryd.underlying29 info8 rfl (by omega) rfl (World.ownsRow_nil _ _ _ _) rfl HBS.out (bytesV_one _) ⟨by omega, by omega⟩ (Nat.le_refl _) ?_)
  intro p9 c9 w9 ho9 hg9 _ _
  have HX := Lib.hid (HF.out p9 c9 w9 (by simpa using ho9) ((Below.refl _ _).grown hg9 (Nat.le_refl _) (fun k hk => by simp [Value.ownBlock] at hk)))
  clear ho9 hg9
  go_wp2_with fail
  go_ret
  exact HX.out

def RD.cntS (s : RD) (width most : Int) : RD := if most < 0 ∨ most < (s.numV width : Int) then (s.numS width).fail 4 else s.numS width
def RD.cntV (s : RD) (width most : Int) : Int := if (s.cntS width most).bad = none then (s.numV width : Int) else 0
def CountP (base rb : Nat) (s : RD) (n m : Int) (w : World) (e : Ending) (w' : World) : Prop := e = .returned (.int .i64 (s.cntV n m)) ∧ LeftR base rb (s.cntS n m) w w'
theorem numV_lt (s : RD) (n : Int) : s.numV n < 18446744073709551616 := beN_lt _ (takeW_len s n)
theorem RAt.cells {w : World} {base rb : Nat} {s : RD} (h : RAt w base rb s) : ∃ bv, w.cell? ⟨rb, 3, none⟩ = some bv ∧ FaultAt w base s.bad bv := by
  obtain ⟨v, bv, h⟩ := h
  exact ⟨bv, h.cells.2.2.2.1, h.fault⟩
set_option maxRecDepth 100000 in
theorem count_any {base rb : Nat} {s : RD} (w : World) (h : RAt w base rb s) (n : Int) (hn : -9223372036854775808 ≤ n ∧ n ≤ 9223372036854775807) (m : Int) (hm : -9223372036854775808 ≤ m ∧ m ≤ 9223372036854775807) :
    Calls Tryd.prog 38 #[.pointer (some ⟨rb, 0, none⟩), .int .i64 n, .int .i64 m] w (CountP base rb s n m w) := by
  have HT := Lib.hid (num_any w h n hn)
  clear h
  have hlt := numV_lt s n
  by_cases hbad : m < 0 ∨ m < (s.numV n : Int)
  · have HF : Hid (∀ w', LeftR base rb ((s.numS n).fail 4) w w' → CountP base rb s n m w (.returned (.int .i64 0)) w') := fun w' hl => by
      have h1 : s.cntS n m = (s.numS n).fail 4 := by unfold RD.cntS; rw [if_pos hbad]
      have h2 : s.cntV n m = 0 := by
        unfold RD.cntV
        rw [h1, if_neg]
        unfold RD.fail
        split
        · simp
        · rename_i h; intro h'; exact h ⟨h', by decide⟩
      exact ⟨by rw [h2], by rw [h1]; exact hl⟩
    have HBN : Hid (((s.numS n).fail 4).bad ≠ none) := by
      show _ ≠ _
      unfold RD.fail
      split
      · simp
      · rename_i h; intro h'; exact h ⟨h', by decide⟩
    generalize hV : s.numV n = V at *
    have HV := Lib.hid hV
    clear hV
    by_cases hneg : m < 0
    · have hd : decide (m < 0) = true := decide_eq_true hneg
      clear hbad
      go_enter Tryd.func38, Tryd.ntmps38
      go_wp2_with fail
      refine HT.out.mono ?_
      rintro e w1 ⟨rfl, hl⟩
      have HL := Lib.hid hl
      have HFL := Lib.hid (fail_any w1 hl.1 4 (by omega))
      rw [HV.out]
      clear hl
      go_wp2_with fail
      refine HFL.out.mono ?_
      rintro e w2 ⟨rfl, hl2⟩
      obtain ⟨bv, hc3, hfa⟩ := hl2.1.cells
      obtain ⟨b, hbb⟩ := Option.ne_none_iff_exists'.1 HBN.out
      rw [hbb] at hfa
      obtain ⟨_, _, fb, a0, rfl, _⟩ := hfa
      have HR2 := Lib.hid hl2.1
      have HFIN := Lib.hid (HF.out _ (HL.out.trans hl2))
      clear hl2 hbb
      go_wp2_with fail
      refine (none_any w2 HR2.out).mono ?_
      rintro e w3 ⟨rfl, rfl⟩
      go_wp2_with fail
      go_ret
      exact HFIN.out
    · have hd : decide (m < 0) = false := decide_eq_false hneg
      obtain ⟨M, rfl⟩ : ∃ M : Nat, m = (M : Int) := ⟨m.toNat, by omega⟩
      have hMV : M < V := by omega
      have hd2 : decide ((M : Int) < (V : Int)) = true := decide_eq_true (by omega)
      have hwm : IntKind.u64.wrap (M : Int) = (M : Int) := by rw [IntKind.wrap_u64]; omega
      clear hbad
      go_enter Tryd.func38, Tryd.ntmps38
      go_wp2_with fail
      refine HT.out.mono ?_
      rintro e w1 ⟨rfl, hl⟩
      have HL := Lib.hid hl
      have HFL := Lib.hid (fail_any w1 hl.1 4 (by omega))
      rw [HV.out]
      clear hl
      go_wp2_with fail
      refine HFL.out.mono ?_
      rintro e w2 ⟨rfl, hl2⟩
      obtain ⟨bv, hc3, hfa⟩ := hl2.1.cells
      obtain ⟨b, hbb⟩ := Option.ne_none_iff_exists'.1 HBN.out
      rw [hbb] at hfa
      obtain ⟨_, _, fb, a0, rfl, _⟩ := hfa
      have HR2 := Lib.hid hl2.1
      have HFIN := Lib.hid (HF.out _ (HL.out.trans hl2))
      clear hl2 hbb
      go_wp2_with fail
      refine (none_any w2 HR2.out).mono ?_
      rintro e w3 ⟨rfl, rfl⟩
      go_wp2_with fail
      go_ret
      exact HFIN.out
  · have hS : s.cntS n m = s.numS n := by unfold RD.cntS; rw [if_neg hbad]
    have hVV : s.cntV n m = if (s.numS n).bad = none then (s.numV n : Int) else 0 := by unfold RD.cntV; rw [hS]
    have HF : Hid (∀ w', LeftR base rb (s.numS n) w w' → CountP base rb s n m w (.returned (.int .i64 (if (s.numS n).bad = none then (s.numV n : Int) else 0))) w') := fun w' hl => ⟨by rw [hVV], by rw [hS]; exact hl⟩
    generalize hV : s.numV n = V at *
    have HV := Lib.hid hV
    have hneg : ¬ m < 0 := fun h => hbad (.inl h)
    have hd : decide (m < 0) = false := decide_eq_false hneg
    obtain ⟨M, rfl⟩ : ∃ M : Nat, m = (M : Int) := ⟨m.toNat, by omega⟩
    have hMV : V ≤ M := by omega
    have hd2 : decide ((M : Int) < (V : Int)) = false := decide_eq_false (by omega)
    have hwm : IntKind.u64.wrap (M : Int) = (M : Int) := by rw [IntKind.wrap_u64]; omega
    have hwv : IntKind.i64.wrap (V : Int) = (V : Int) := IntWalk.i64_in _ (by omega)
    clear hbad hS hVV hV
    cases hbad : (s.numS n).bad with
    | none =>
      rw [hbad, if_pos rfl] at HF
      have HBAD := Lib.hid hbad
      clear hbad
      go_enter Tryd.func38, Tryd.ntmps38
      go_wp2_with fail
      refine HT.out.mono ?_
      rintro e w1 ⟨rfl, hl⟩
      rw [HV.out]
      obtain ⟨bv, hc3, hfa⟩ := hl.1.cells
      rw [HBAD.out] at hfa
      obtain rfl : bv = .nilIface := hfa
      have HR2 := Lib.hid hl.1
      have HFIN := Lib.hid (HF.out _ hl)
      clear hl
      go_wp2_with fail
      refine (none_any w1 HR2.out).mono ?_
      rintro e w3 ⟨rfl, rfl⟩
      go_wp2_with fail
      go_ret
      exact HFIN.out
    | some b =>
      rw [hbad, if_neg (by simp)] at HF
      have HBAD := Lib.hid hbad
      clear hbad
      go_enter Tryd.func38, Tryd.ntmps38
      go_wp2_with fail
      refine HT.out.mono ?_
      rintro e w1 ⟨rfl, hl⟩
      rw [HV.out]
      obtain ⟨bv, hc3, hfa⟩ := hl.1.cells
      rw [HBAD.out] at hfa
      obtain ⟨_, _, fb, a0, rfl, _⟩ := hfa
      have HR2 := Lib.hid hl.1
      have HFIN := Lib.hid (HF.out _ hl)
      clear hl
      go_wp2_with fail
      refine (none_any w1 HR2.out).mono ?_
      rintro e w3 ⟨rfl, rfl⟩
      go_wp2_with fail
      go_ret
      exact HFIN.out
end Go.Proofs.YtdaigkcbmdcbcaaDoor.Rdr

namespace Go.Mir
open Go.RowKit

section
variable {P : Program} {ops : Array Oper} {S : World → Prop} {Q : Exit → Act → World → Prop} {marks : List Nat}
/-- it waits for i, by a path of edges -/
def waitsB (ops : Array Oper) : Nat → Nat → Nat → Bool
  | 0, _, _ => false
  | n + 1, j, i => match ops[j]? with
    | some o => o.after.any fun e => Region.binds .any e && (e.on == i || waitsB ops n e.on i)
    | none => false
/-- it waits for every marked operation -/
def lateB (ops : Array Oper) (marks : List Nat) (j : Nat) : Bool := marks.all fun i => waitsB ops 16 j i
/-- what is listed had all that it waits for listed -/
def closedL (ops : Array Oper) (listed : Array Bool) : Prop := ∀ (j : Nat) (o : Oper), ops[j]? = some o → listed.getD j false = true → ∀ e ∈ o.after, Region.binds .any e = true → listed.getD e.on false = true
theorem waits_listed {listed : Array Bool} (hc : closedL ops listed) {i : Nat} : ∀ (n j : Nat) (o : Oper), ops[j]? = some o → (∀ e ∈ o.after, Region.binds .any e = true → listed.getD e.on false = true) → waitsB ops n j i = true → listed.getD i false = true
  | 0, _, _, _, _, h => by cases h
  | n + 1, j, o, ho, hall, h => by
    simp only [waitsB, ho] at h
    rw [Array.any_eq_true] at h
    obtain ⟨k, hk, h4⟩ := h
    simp only [Bool.and_eq_true, Bool.or_eq_true, beq_iff_eq] at h4
    have hl := hall _ (Array.getElem_mem hk) h4.1
    rcases h4.2 with h5 | h5
    · rw [h5] at hl; exact hl
    · cases ho2 : ops[o.after[k].on]? with
      | none => cases n with
        | zero => cases h5
        | succ m => simp [waitsB, ho2] at h5
      | some o2 => exact waits_listed hc n _ o2 ho2 (hc _ o2 ho2 hl) h5
theorem closedL.set {listed : Array Bool} (hc : closedL ops listed) {j : Nat} (hj : j ∈ Region.ready .any ops listed) : closedL ops (listed.setIfInBounds j true) := fun k o ho hk e he hb => by
  obtain ⟨_, oj, hoj, hall⟩ := mem_ready.1 hj
  by_cases hjk : j = k
  · subst hjk
    rw [hoj] at ho
    cases ho
    exact getD_set_true (hall e he hb)
  · rw [getD_set_ne false hjk] at hk
    exact getD_set_true (hc k o ho hk e he hb)
/-- whichever comes up: S is asked only behind what can come ahead of a marked operation -/
def wpAnyG (P : Program) (ops : Array Oper) (Q : Exit → Act → World → Prop) (S : World → Prop) (marks : List Nat) : Nat → Array Bool → Act → World → Prop
  | 0, listed, a, w => Region.ready .any ops listed = [] ∧ Q .normal a w
  | n + 1, listed, a, w => (Region.ready .any ops listed = [] → Q .normal a w) ∧
    ∀ i ∈ Region.ready .any ops listed, wpOp P ops Q i (fun a' w' => (lateB ops marks i = false → S w') ∧ wpAnyG P ops Q S marks n (listed.setIfInBounds i true) a' w') a w
theorem wpAny_of_G : ∀ (n : Nat) (listed : Array Bool) (a : Act) (w : World), wpAnyG P ops Q S marks n listed a w → wpAny P .any ops Q n listed a w
  | 0, _, _, _, h => h
  | n + 1, _, _, _, h => ⟨h.1, fun i hi => wpOp_mono (fun a' w' h' => wpAny_of_G n _ a' w' h'.2) (h.2 i hi)⟩
theorem wpAnyG_take {i : Nat} {oi : Oper} {v : Value} (hi : ops[i]? = some oi) (hmk : i ∈ marks) (hsel : ∀ (j : Nat) (o : Oper) cs b, ops[j]? = some o → o.op ≠ .select cs b)
    (hQ : ∀ c a w, Q (.panic c) (a.put oi.dst v) w → Q (.panic c) a w) :
    ∀ (n : Nat) (listed : Array Bool) (a : Act) (w : World),
      (∀ j oj, ops[j]? = some oj → j ≠ i → listed.getD j true = false → (∀ e ∈ oj.after, Region.binds .any e = true → e.on ≠ i) → oi.apart ops oj = true) →
      i ∈ Region.ready .any ops listed → closedL ops listed → YieldsIf P ops S oi v a → S w →
      wpAnyG P ops Q S marks n (listed.setIfInBounds i true) (a.put oi.dst v) w → wpAnyG P ops Q S marks (n + 1) listed a w := by
  intro n
  induction n with
  | zero =>
    intro listed a w _ hr hcl hy hS H
    refine ⟨fun h => absurd (h ▸ hr) List.not_mem_nil, fun j hj => ?_⟩
    by_cases hji : j = i
    · subst hji; exact hy.wpOp hi hS ⟨fun _ => hS, H⟩
    · exact absurd (H.1 ▸ ready_mono hj hji) List.not_mem_nil
  | succ n ih =>
    intro listed a w hfree hr hcl hy hS H
    refine ⟨fun h => absurd (h ▸ hr) List.not_mem_nil, fun j hj => ?_⟩
    by_cases hji : j = i
    · subst hji; exact hy.wpOp hi hS ⟨fun _ => hS, H⟩
    obtain ⟨hjun, oj, hoj, hall⟩ := mem_ready.1 hj
    have hiun := (mem_ready.1 hr).1
    have hno : ∀ e ∈ oj.after, Region.binds .any e = true → e.on ≠ i := fun e he hb heq => by
      have h1 := hall e he hb
      rw [heq] at h1
      rcases Nat.lt_or_ge i listed.size with h' | h'
      · simp [h'] at hiun h1; rw [hiun] at h1; cases h1
      · simp [Array.getElem?_eq_none h'] at h1
    have hlate : lateB ops marks j = false := by
      cases hl : lateB ops marks j with
      | false => rfl
      | true =>
        simp only [lateB, List.all_eq_true] at hl
        have h3 := waits_listed hcl 16 j oj hoj hall (hl i hmk)
        rcases Nat.lt_or_ge i listed.size with h' | h'
        · simp [h'] at hiun h3; rw [hiun] at h3; cases h3
        · simp [Array.getElem?_eq_none h'] at h3
    have h2 := wpOp_putIf hoj (hfree j oj hoj hji hjun hno) (fun cs b => hsel i oi cs b hi) (fun cs b => hsel j oj cs b hoj) hQ hy (H.2 j (ready_mono hj hji))
    refine wpOp_mono (fun a' w' h3 => ⟨h3.2.1, ih (listed.setIfInBounds j true) a' w' ?_ (ready_mono hr (Ne.symm hji)) (hcl.set hj) h3.1 (h3.2.1 hlate) ?_⟩) h2
    · intro k ok hk hki hun hn'
      refine hfree k ok hk hki ?_ hn'
      by_cases hjk : j = k
      · subst hjk; exact hjun
      · rw [getD_set_ne true hjk] at hun; exact hun
    · rw [Array.setIfInBounds_comm _ _ hji]
      exact h3.2.2
/-- the plan: what is taken or called while S stands; then what is late -/
def planT (ops : Array Oper) (marks : List Nat) : List Nat → Array Bool → Bool
  | j :: t, l => (ops[j]?).isSome && Region.ready .any ops l == [j] && lateB ops marks j && planT ops marks t (l.setIfInBounds j true)
  | [], l => (Region.ready .any ops l).isEmpty
def planG (ops : Array Oper) (marks : List Nat) (t : List Nat) : List (Nat × Bool) → Array Bool → Bool
  | (i, true) :: r, l => (ops[i]?).isSome && marks.contains i && Region.free .any ops l i && (Region.ready .any ops l).contains i && planG ops marks t r (l.setIfInBounds i true)
  | (i, false) :: r, l => (ops[i]?).isSome && Region.ready .any ops l == [i] && planG ops marks t r (l.setIfInBounds i true)
  | [], l => planT ops marks t l
def tailOps (l : List Oper) : List Nat → List Oper
  | [] => []
  | j :: t => match nthO l j with
    | some o => o :: tailOps l t
    | none => tailOps l t
/-- the walk: while S stands, and on -/
def wpEagerT (P : Program) (ops : Array Oper) (S : World → Prop) (Q : Exit → Act → World → Prop) (T : List Oper) : List (Oper × Bool) → Act → World → Prop
  | [], a, w => wpList P ops Q T a w
  | (o, true) :: r, a, w => ∃ v, YieldsIf P ops S o v a ∧ wpEagerT P ops S Q T r (a.put o.dst v) w
  | (o, false) :: r, a, w => if Region.wanted o (yielded ops a.tmps) then o.wp P a w (fun a' w' => S w' ∧ wpEagerT P ops S Q T r a' w') Q else wpEagerT P ops S Q T r (a.put o.dst undef) w
theorem wpAnyG_late {l : List Oper} (hl : l.toArray = ops) (hs : Region.noSelect ops = true) : ∀ (t : List Nat) (listed : Array Bool) (a : Act) (w : World), planT ops marks t listed = true → wpList P ops Q (tailOps l t) a w → wpAnyG P ops Q S marks t.length listed a w
  | [], listed, a, w, hp, h => by
    simp only [planT, List.isEmpty_iff] at hp
    exact ⟨hp, h⟩
  | j :: t, listed, a, w, hp, h => by
    simp only [planT, Bool.and_eq_true, beq_iff_eq] at hp
    obtain ⟨⟨⟨h1, h2⟩, h3⟩, h4⟩ := hp
    obtain ⟨o, ho⟩ := Option.isSome_iff_exists.1 h1
    have hn : nthO l j = some o := by rw [← nthO_eq, hl]; exact ho
    simp only [tailOps, hn] at h
    refine ⟨fun e => (by rw [h2] at e; cases e), fun i hi => ?_⟩
    rw [h2, List.mem_singleton] at hi
    subst hi
    unfold wpOp
    simp only [ho]
    unfold wpList at h
    split at h
    · rename_i hw
      rw [if_pos hw]
      exact h.imp (fun h => Oper.wp_mono (fun a' w' h5 => ⟨fun e => (by rw [h3] at e; cases e), wpAnyG_late hl hs t _ _ _ h4 h5⟩) h) id
    · rename_i hw
      rw [if_neg hw]
      exact ⟨fun e => (by rw [h3] at e; cases e), wpAnyG_late hl hs t _ _ _ h4 h⟩
theorem wpAnyG_plan {l : List Oper} (hl : l.toArray = ops) (hs : Region.noSelect ops = true) (hQ : ∀ c a d v w, Q (.panic c) (a.put d v) w → Q (.panic c) a w) (t : List Nat) :
    ∀ (π : List (Nat × Bool)) (listed : Array Bool) (a : Act) (w : World), planG ops marks t π listed = true → closedL ops listed → S w → wpEagerT P ops S Q (tailOps l t) (planOps l π) a w → wpAnyG P ops Q S marks (π.length + t.length) listed a w
  | [], listed, a, w, hp, _, _, h => by
    rw [List.length_nil, Nat.zero_add]
    exact wpAnyG_late hl hs t _ _ _ hp h
  | (i, true) :: r, listed, a, w, hp, hcl, hS, h => by
    simp only [planG, Bool.and_eq_true] at hp
    obtain ⟨⟨⟨⟨h1, hmk⟩, h2⟩, h3⟩, h4⟩ := hp
    obtain ⟨o, ho⟩ := Option.isSome_iff_exists.1 h1
    have hn : nthO l i = some o := by rw [← nthO_eq, hl]; exact ho
    simp only [planOps, hn, wpEagerT] at h
    obtain ⟨v, hy, h⟩ := h
    rw [List.length_cons, Nat.add_right_comm]
    exact wpAnyG_take ho (by simpa using hmk) (Region.noSelect_spec hs) (fun c a w => hQ c a _ _ w) _ _ _ _ (Region.free_spec ho h2) (by simpa using h3) hcl hy hS (wpAnyG_plan hl hs hQ t r _ _ _ h4 (hcl.set (by simpa using h3)) hS h)
  | (i, false) :: r, listed, a, w, hp, hcl, hS, h => by
    simp only [planG, Bool.and_eq_true, beq_iff_eq] at hp
    obtain ⟨⟨h1, h2⟩, h4⟩ := hp
    obtain ⟨o, ho⟩ := Option.isSome_iff_exists.1 h1
    have hn : nthO l i = some o := by rw [← nthO_eq, hl]; exact ho
    simp only [planOps, hn, wpEagerT] at h
    rw [List.length_cons, Nat.add_right_comm]
    refine ⟨fun e => (by rw [h2] at e; cases e), fun j hj => ?_⟩
    rw [h2, List.mem_singleton] at hj
    subst hj
    unfold wpOp
    simp only [ho]
    split at h
    · rename_i hw
      rw [if_pos hw]
      exact .inl (Oper.wp_mono (fun a' w' ⟨h5, h6⟩ => ⟨fun _ => h5, wpAnyG_plan hl hs hQ t r _ _ _ h4 (hcl.set (by rw [h2]; exact List.mem_singleton.2 rfl)) h5 h6⟩) h)
    · rename_i hw
      rw [if_neg hw]
      exact ⟨fun _ => hS, wpAnyG_plan hl hs hQ t r _ _ _ h4 (hcl.set (by rw [h2]; exact List.mem_singleton.2 rfl)) hS h⟩
/-- the beginning -/
theorem wp_region_eager_t {id : Nat} {a : Act} {w : World} {l : List Oper} (S : World → Prop) (marks : List Nat) (π : List (Nat × Bool)) (t : List Nat) (hm : P.follows .mixedOrders = true)
    (hp : (planG l.toArray marks t π (Array.replicate l.length false) && Region.noSelect l.toArray && π.length + t.length == l.length) = true) (hS : S w.drew)
    (h : wpEagerT P l.toArray S (NoPanic Q) (tailOps l t) (planOps l π) a w.drew) : (Code.region id l.toArray true).wp P Q a w := by
  refine wp_region_noPanic ?_
  simp only [Bool.and_eq_true, beq_iff_eq] at hp
  obtain ⟨⟨h1, h2⟩, h3⟩ := hp
  have := wpAny_of_G _ _ _ _ (wpAnyG_plan (P := P) (Q := NoPanic Q) (S := S) (marks := marks) (l := l) rfl h2 (fun _ _ _ _ _ h => h) t π (Array.replicate l.length false) a w.drew h1 (fun j o _ hj => by rw [Array.getD_eq_getD_getElem?, Array.getElem?_replicate] at hj; split at hj <;> cases hj) hS h)
  refine wp_region_any hm ?_
  rw [h3] at this
  have hz : l.toArray.size = l.length := List.size_toArray ..
  rw [hz]
  exact this
/-- the next operation, written out -/
theorem eagerTOpen {l : List Oper} {T : List Oper} {i : Nat} {b : Bool} {r : List (Nat × Bool)} {a : Act} {w : World} {o : Oper} (ho : nthO l i = some o)
    (h : wpEagerT P ops S Q T ((o, b) :: planOps l r) a w) : wpEagerT P ops S Q T (planOps l ((i, b) :: r)) a w := by
  unfold planOps; rw [ho]; exact h
theorem eagerTEnd {l : List Oper} {T : List Oper} {a : Act} {w : World} (h : wpList P ops Q T a w) : wpEagerT P ops S Q T (planOps l []) a w := h
theorem tail1 {l : List Oper} {j : Nat} {a : Act} {w : World} {o : Oper} (ho : nthO l j = some o) (h : wpList P ops Q [o] a w) : wpList P ops Q (tailOps l [j]) a w := by
  simp only [tailOps, ho]; exact h
theorem tail2 {l : List Oper} {j k : Nat} {a : Act} {w : World} {o o' : Oper} (ho : nthO l j = some o) (ho' : nthO l k = some o') (h : wpList P ops Q [o, o'] a w) : wpList P ops Q (tailOps l [j, k]) a w := by
  simp only [tailOps, ho, ho']; exact h
theorem wpEagerT_tail {T : List Oper} {a : Act} {w : World} (h : wpList P ops Q T a w) : wpEagerT P ops S Q T [] a w := h
theorem wpEagerT_take {T : List Oper} {o : Oper} {r : List (Oper × Bool)} {a : Act} {w : World} {v : Value} (hw : Region.wanted o (yielded ops a.tmps) = true)
    (hy : ∀ w', S w' → (execOp a.eval o).run P w' = .ok (.value v) w') (h : wpEagerT P ops S Q T r (a.put o.dst v) w) : wpEagerT P ops S Q T ((o, true) :: r) a w := ⟨v, .inl ⟨hw, hy⟩, h⟩
theorem wpEagerT_skip {T : List Oper} {o : Oper} {r : List (Oper × Bool)} {a : Act} {w : World} (hw : Region.wanted o (yielded ops a.tmps) = false)
    (h : wpEagerT P ops S Q T r (a.put o.dst undef) w) : wpEagerT P ops S Q T ((o, true) :: r) a w := ⟨undef, .inr ⟨hw, rfl⟩, h⟩
theorem wpEagerT_load {T : List Oper} {op : Oper} {r : List (Oper × Bool)} {a : Act} {w : World} (hw : Region.wanted op (yielded ops a.tmps) = true) (ty : TypeId) (x : Operand) (ho : op.op = .load ty x)
    (b o : Nat) (hx : a.eval x = .pointer (some ⟨b, o, none⟩)) (M : Array Value) (d : TypeDesc) (hc : ∀ w', S w' → w'.rangeAt b o M.toList)
    (hu : P.underlying ty = some d) (hd : d.isRow = true) (hi : (P.info? ty).map (·.size) = some M.size)
    (h : wpEagerT P ops S Q T r (a.put op.dst (.agg M)) w) : wpEagerT P ops S Q T ((op, true) :: r) a w := by
  refine wpEagerT_take hw (fun w' hb => ?_) h
  unfold execOp
  simp only [ho, hx, Instr.loadAt, Instr.sureAddr, Sem.run_bind, Sem.run_pure, Result.andThen_ok, run_loadVar_mid w' b o ty M.toList d (hc w' hb) hu hd (by simpa using hi)]
theorem wpEagerT_op {T : List Oper} {o : Oper} {r : List (Oper × Bool)} {a : Act} {w : World} (hw : Region.wanted o (yielded ops a.tmps) = true)
    (h : ∀ K : Act → World → Prop, Shut (∀ a w, S w → wpEagerT P ops S Q T r a w → K a w) → Oper.wp P o a w K Q) : wpEagerT P ops S Q T ((o, false) :: r) a w := by
  unfold wpEagerT; rw [if_pos hw]; exact h _ fun _ _ h1 h2 => ⟨h1, h2⟩
theorem eagerTLoadAt {T : List Oper} {r : List (Oper × Bool)} {a : Act} {w : World} (n : Nat) {d : Option Nat} {ty : TypeId} {t : TypeId} {p : String} {af : Array Edge} {g : Option (Nat × Bool)} {b : Bool}
    (h : wpEagerT P ops S Q T ((⟨d, .load ty (.tmp n), t, p, af, g⟩, b) :: r) a w) : wpEagerT P ops S Q T ((⟨d, .load ty (.tmp n), t, p, af, g⟩, b) :: r) a w := h
end
/-- where an operation alone ends -/
def OnlyQ (K : Act → World → Prop) (Q : Exit → Act → World → Prop) : Exit → Act → World → Prop
  | .normal, a, w => K a w
  | .panic c, a, w => Q (.panic c) a w
  | _, _, _ => False
/-- an operation by its law for a list -/
theorem oper_of_list {P : Program} {o : Oper} {a : Act} {w : World} {K : Act → World → Prop} {Q : Exit → Act → World → Prop} (hg : o.guard = none)
    (h : wpList P #[] (OnlyQ K Q) [o] a w) : Oper.wp P o a w K Q := by
  have hno : ¬ LetsOut (OnlyQ K Q) := fun ⟨_, _, h⟩ => h
  unfold wpList at h
  rw [if_pos (by simp [Region.wanted, hg])] at h
  rcases h with h | ⟨_, h⟩
  · replace h : Oper.wp P o a w K (OnlyQ K Q) := h
    unfold Oper.wp at h ⊢
    unfold Oper.upon at h ⊢
    split at h
    · exact h
    · exact h
    · exact h
    · refine Calls.mono h ?_
      intro e w' he
      cases e with
      | returned v => exact he
      | panicked c => exact he
      | outgrown => exact absurd he hno
    · exact h
    · exact h
    · exact h.elim
  · exact absurd h hno
theorem only_end {P : Program} {ops : Array Oper} {K : Act → World → Prop} {Q : Exit → Act → World → Prop} {a : Act} {w : World} (h : K a w) : wpList P ops (OnlyQ K Q) [] a w := h
theorem noPanic_end {Q : Exit → Act → World → Prop} {a : Act} {w : World} (h : Q .normal a w) : NoPanic Q .normal a w := h
end Go.Mir

namespace Go.Proofs.YtdaigkcbmdcbcaaDoor.Rdr
open Go.RowKit Go.Mir Go.Mir.Parts

theorem wpList_copy_turn {P : Program} {w : World} {ops : Array Oper} {rest : List Oper} {o : Oper} {a : Act} {Q : Exit → Act → World → Prop} (hgd : o.guard = none) (d s : Operand) (dT sT : TypeId)
    (ho : o.op = .call { callee := .builtin .copy, args := #[d, s], argTypes := #[dT, sT] }) (elem : TypeId) (hu : P.underlying dT = some (.slice elem)) (hsz : (P.info? elem).map (·.size) = some 1)
    (dp sp : Option Addr) (dLen dCap sLen sCap : Nat) (hd : a.eval d = .slice dp dLen dCap) (hs : a.eval s = .slice sp sLen sCap)
    (g off : Nat) (cur : Array Value) (t : TypeId) (hg : w.heap[g]? = some (.cells cur t (0, 0))) (cs : List Value) (hn : cs.length = Nat.min sLen dLen)
    (hpos : 0 < cs.length → dp = some ⟨g, off, none⟩ ∧ ∃ ad, sp = some ad ∧ ∀ j v, cs[j]? = some v → w.cell? (ad.add j) = some v)
    (hfit : off + cs.length ≤ cur.size) (h1 : ∀ v ∈ cs, v.oneCell' = true)
    (h : ∀ w', Hid (w'.heap[g]? = some (.cells (cur.toList.take off ++ (cs ++ cur.toList.drop (off + cs.length))).toArray t (0, 0))) → Turns (fun k => k = g) w w' → wpList P ops Q rest (a.put o.dst (goInt cs.length)) w') :
    wpList P ops Q (o :: rest) a w := by
  by_cases h0 : cs.length = 0
  · obtain rfl : cs = [] := List.eq_nil_of_length_eq_zero h0
    refine wpList_copy_nothing hgd d s dT sT ho elem hu hsz dp sp dLen dCap sLen sCap hd hs (by simpa using hn.symm) ?_
    exact h w (show _ = _ by simpa using hg) (Turns.refl _ _)
  · obtain ⟨rfl, ad, rfl, hsrc⟩ := hpos (by omega)
    refine wpList_copy_own hgd d s dT sT ho elem hu hsz g off dLen dCap ad sLen sCap hd hs cur t hg cs hn hsrc hfit h1 ?_
    exact h _ (setRow_heap w g _ _ t _ hg) (turns_setRow w g _)
theorem bytesV_rep (n k : Nat) : (bytesV (List.replicate n 0)).drop k = bytesV (List.replicate (n - k) 0) := by unfold bytesV; rw [List.map_replicate, List.map_replicate, List.drop_replicate]
def RD.idV (s : RD) (n : Nat) : List UInt8 := s.takeB n true ++ List.replicate (n - (s.takeB n true).length) 0
def IdP (base rb : Nat) (s : RD) (n : Nat) (w : World) (e : Ending) (w' : World) : Prop := e = .returned (.agg (idA (s.idV n))) ∧ LeftR base rb (s.takeS n true) w w'
theorem RAt.touch {S : Nat → Prop} {w w' : World} {base rb : Nat} {s : RD} (h : RAt w base rb s) (ht : Turns S w w') (hS : ∀ k M t fr, w.heap[k]? = some (.cells M t fr) → (t = 5 ∨ t = 94 ∨ t = 85) → ¬ S k) : RAt w' base rb s := by
  obtain ⟨v, bv, h⟩ := h
  exact ⟨v, bv, ht.keep h.row (hS _ _ _ _ h.row (.inr (.inr rfl))), h.low, h.bytes.touch ht (fun k M fr hk => hS k M _ fr hk (.inl rfl)), h.fault.touch ht (fun k M fr hk => hS k M _ fr hk (.inr (.inl rfl))), h.at1, h.len⟩

def zid : Array Value := idA (List.replicate 32 0)
theorem zeroid (w : World) : (zeroValue 23).run Tryd.prog w = .ok (.agg zid) w := by kernel_rfl
theorem infoid (cs : Array Value) (h : cs.size = 32) : (Tryd.prog.info? 23).map (·.size) = some cs.size := by rw [h]; kernel_rfl
theorem kindid {w : World} {g : Nat} {M : Array Value} (h : w.heap[g]? = some (.cells M 23 (0, 0))) : ∀ M t fr, w.heap[g]? = some (.cells M t fr) → ¬ (t = 5 ∨ t = 94 ∨ t = 85) := fun M t fr h2 h3 => by
  rw [h] at h2
  injection h2 with e1
  injection e1 with _ e2
  subst e2
  revert h3
  decide
set_option maxRecDepth 100000 in
set_option maxHeartbeats 1600000 in
theorem id_any {base rb : Nat} {s : RD} (w : World) (h : RAt w base rb s) :
    Calls Tryd.prog 36 #[.pointer (some ⟨rb, 0, none⟩)] w (IdP base rb s 32 w) := by
  have hz := zeroid
  have H2 := Lib.hid (two_allocs w (.cells zid 23) (.cells zid 23))
  have HLR : Hid (∀ w2 w', Below w.heap.size w w2 → LeftR base rb (s.takeS 32 true) w2 w' → LeftR base rb (s.takeS 32 true) w w') := fun w2 w' hb hl => LeftR.trans (LeftR.same h hb) hl
  have HRL : Hid (rb < w.heap.size) := by obtain ⟨v, bv, h⟩ := h; exact h.lt
  have H := Lib.hid h
  clear h
  go_enter Tryd.func36, Tryd.ntmps36
  go_upto_region 2 with fail
  generalize (w.alloc (.cells zid 23)).alloc (.cells zid 23) = w2 at *
  have HB2 := Lib.hid H2.out.2.2.2
  have hsl : ∀ w', (Instr.sliceAt 23 (.pointer (some ⟨w.heap.size + 1, 0, none⟩)) none none none).run Tryd.prog w' = .ok (.slice (some ⟨w.heap.size + 1, 0, none⟩) 32 32) w' := fun w' => by kernel_rfl
  have HT := Lib.hid (take_any w2.drew ((H.out.below HB2.out).below (below_drew1 _ _)) 32 (by omega) true)
  refine wp_region_eager_t (Turns (fun k => k = rb) w2) [0, 1] [(0, true), (1, true), (2, false)] [3] (by kernel_rfl) (by kernel_rfl) ?_ (eagerTOpen rfl ?_)
  · exact (Turns.refl _ _).drew
  have hy0 : Turns (fun k => k = rb) w2 w2.drew := (Turns.refl _ _).drew
  repeat (first
    | (first | (apply wpEagerT_take; (· rfl); (· (intro w' hb'; go_simp; try with_reducible rfl)); (try simp only [Act.put, List.setIfInBounds_toArray, List.set_cons_zero, List.set_cons_succ]); (try refine eagerTOpen rfl ?_)) | (refine wpEagerT_skip (by rfl) ?_; (try simp only [Act.put, List.setIfInBounds_toArray, List.set_cons_zero, List.set_cons_succ]); (try refine eagerTOpen rfl ?_))))
  (refine wpEagerT_op (by rfl) (fun K hK => ?_); go_simp; (refine (HT.out).mono ?_; rintro e y ⟨p, c, rfl, hbs, hl⟩; have HBS := Lib.hid hbs; have HL := Lib.hid hl; have hy1 : Turns (fun k => k = rb) w2 y := hy0.trans hl.2 (fun _ _ h => h); clear hbs hl); refine Shut.out hK _ _ (by assumption) ?_; clear hK K; (try simp only [Act.put, List.setIfInBounds_toArray, List.set_cons_zero, List.set_cons_succ]); (try refine eagerTOpen rfl ?_))
  refine eagerTEnd (tail1 rfl ?_)
  have HR0 : Hid (y.heap[w.heap.size]? = some (.cells zid 23 (0, 0))) := hy1.keep H2.out.1 (by have := HRL.out; omega)
  have HR1 : Hid (y.heap[w.heap.size + 1]? = some (.cells zid 23 (0, 0))) := hy1.keep H2.out.2.1 (by have := HRL.out; omega)
  have HLN := Lib.hid (takeB_len s 32 true)
  have HFF : Hid (∀ w', Turns (fun k => k = w.heap.size ∨ k = w.heap.size + 1) y w' → LeftR base rb (s.takeS 32 true) w w') := fun w' ht => by
    have hsame := (LeftR.trans (LeftR.same H.out HB2.out) (LeftR.trans (LeftR.same (H.out.below HB2.out) (below_drew1 _ _)) HL.out)).same1
    obtain ⟨v5, bv5, h5⟩ := HL.out.1
    refine ⟨HL.out.1.touch ht ?_, (((Turns.of_below HB2.out).trans hy1 (fun _ _ h => h)).trans ht ?_), by rw [← hsame, h5.cells.2.1]; exact ht.cell h5.cells.2.1 (by have := HRL.out; show ¬ (rb = _ ∨ rb = _); omega)⟩
    · intro k M t fr hk ht hs
      rcases hs with rfl | rfl
      · exact kindid HR0.out _ _ _ hk ht
      · exact kindid HR1.out _ _ _ hk ht
    · intro i hi hs
      omega
  have HID : Hid (s.idV 32 = s.takeB 32 true ++ List.replicate (32 - (s.takeB 32 true).length) 0) := rfl
  have hy2 : w2.heap.size ≤ y.heap.size := hy1.size
  have hsz2 := H2.out.2.2.1
  clear hy1 hy0
  generalize s.takeB 32 true = L at *
  have hlen : L.length ≤ 32 := by have := HLN.out; simp at this; omega
  have HMIN : Hid ((bytesV L).length = Nat.min L.length 32) := by
    show _ = _
    rw [bytesV_length]
    exact (Nat.min_eq_left hlen).symm
  have HFIT : Hid (0 + (bytesV L).length ≤ zid.size) := by
    show _ ≤ _
    rw [bytesV_length, show zid.size = 32 by rfl]
    omega
  have HPOS : Hid (0 < (bytesV L).length → some (⟨w.heap.size + 1, 0, none⟩ : Addr) = some ⟨w.heap.size + 1, 0, none⟩ ∧ ∃ ad, p = some ad ∧ ∀ j v, (bytesV L)[j]? = some v → y.cell? (ad.add j) = some v) := fun hp => by
    rw [bytesV_length] at hp
    obtain ⟨b, o, rfl⟩ := HBS.out.addr hp (by omega)
    exact ⟨rfl, _, rfl, fun j v hv => HBS.out.cell _ rfl j v hv⟩
  have HY := Lib.hid (HFF.out y (Turns.refl _ _))
  generalize hLn : L.length = m at *
  have HLn := Lib.hid hLn
  clear hLn
  have HROW : Hid ((bytesV L ++ zid.toList.drop (bytesV L).length).toArray = idA (s.idV 32)) := by
    show _ = _
    rw [HID.out, show zid.toList = bytesV (List.replicate 32 0) from idA_toList _]
    unfold idA
    rw [bytesV_append, bytesV_length, HLn.out]
    rw [bytesV_rep]
  have HIL : Hid ((idA (s.idV 32)).size = 32) := by
    show _ = _
    rw [idA_size, HID.out, List.length_append, List.length_replicate, HLn.out]
    omega
  have HZ : Hid ((idA (s.idV 32)).size = zid.size) := HIL.out.trans (show 32 = zid.size from rfl)
  generalize hX : s.idV 32 = X at *
  have HX := Lib.hid hX
  clear hX
  go_wp2_with (refine wpList_copy_turn rfl _ _ 29 29 rfl 5 Tryd.underlying29 (by kernel_rfl) _ _ _ _ _ _ rfl rfl (w.heap.size + 1) 0 zid 23 HR1.out (bytesV L) HMIN.out HPOS.out HFIT.out (bytesV_one _) ?_)
  intro w4 HX4 ht4
  rw [HROW.out] at HX4
  have HR4 : Hid (w4.heap[w.heap.size]? = some (.cells zid 23 (0, 0))) := ht4.keep HR0.out (by omega)
  have HT4 := Lib.hid ht4
  clear ht4
  refine noPanic_end ?_
  go_wp2_with (first
    | refine wpList_load_row rfl 23 _ rfl (w.heap.size + 1) rfl 23 (idA X) (0, 0) _ HX4.out Tryd.underlying23 rfl (infoid _ HIL.out) ?_
    | refine wpList_store_row rfl 23 _ _ rfl w.heap.size (idA X) rfl rfl 23 zid HR4.out (infoid _ HIL.out) HZ.out.symm (idA_one _) ?_)
  have HS := Lib.hid (setRow_heap _ _ _ (idA X) _ _ HR4.out)
  refine bodyPost_ret (results_cell_row rfl _ _ _ _ _ _ _ rfl HS.out Tryd.underlying23 rfl (infoid _ HIL.out)) rfl ?_
  refine ⟨by rw [HX.out], HFF.out _ (((HT4.out.imp (fun _ _ h => .inr h)).trans (turns_setRow _ _ _) (fun _ _ h => .inl h)))⟩
def zhint : Array Value := idA (List.replicate 16 0)
theorem zerohint (w : World) : (zeroValue 40).run Tryd.prog w = .ok (.agg zhint) w := by kernel_rfl
theorem infohint (cs : Array Value) (h : cs.size = 16) : (Tryd.prog.info? 40).map (·.size) = some cs.size := by rw [h]; kernel_rfl
theorem kindhint {w : World} {g : Nat} {M : Array Value} (h : w.heap[g]? = some (.cells M 40 (0, 0))) : ∀ M t fr, w.heap[g]? = some (.cells M t fr) → ¬ (t = 5 ∨ t = 94 ∨ t = 85) := fun M t fr h2 h3 => by
  rw [h] at h2
  injection h2 with e1
  injection e1 with _ e2
  subst e2
  revert h3
  decide
set_option maxRecDepth 100000 in
set_option maxHeartbeats 1600000 in
theorem hint_any {base rb : Nat} {s : RD} (w : World) (h : RAt w base rb s) :
    Calls Tryd.prog 61 #[.pointer (some ⟨rb, 0, none⟩)] w (IdP base rb s 16 w) := by
  have hz := zerohint
  have H2 := Lib.hid (two_allocs w (.cells zhint 40) (.cells zhint 40))
  have HLR : Hid (∀ w2 w', Below w.heap.size w w2 → LeftR base rb (s.takeS 16 true) w2 w' → LeftR base rb (s.takeS 16 true) w w') := fun w2 w' hb hl => LeftR.trans (LeftR.same h hb) hl
  have HRL : Hid (rb < w.heap.size) := by obtain ⟨v, bv, h⟩ := h; exact h.lt
  have H := Lib.hid h
  clear h
  go_enter Tryd.func61, Tryd.ntmps61
  go_upto_region 2 with fail
  generalize (w.alloc (.cells zhint 40)).alloc (.cells zhint 40) = w2 at *
  have HB2 := Lib.hid H2.out.2.2.2
  have hsl : ∀ w', (Instr.sliceAt 40 (.pointer (some ⟨w.heap.size + 1, 0, none⟩)) none none none).run Tryd.prog w' = .ok (.slice (some ⟨w.heap.size + 1, 0, none⟩) 16 16) w' := fun w' => by kernel_rfl
  have HT := Lib.hid (take_any w2.drew ((H.out.below HB2.out).below (below_drew1 _ _)) 16 (by omega) true)
  refine wp_region_eager_t (Turns (fun k => k = rb) w2) [0, 1] [(0, true), (1, true), (2, false)] [3] (by kernel_rfl) (by kernel_rfl) ?_ (eagerTOpen rfl ?_)
  · exact (Turns.refl _ _).drew
  have hy0 : Turns (fun k => k = rb) w2 w2.drew := (Turns.refl _ _).drew
  repeat (first
    | (first | (apply wpEagerT_take; (· rfl); (· (intro w' hb'; go_simp; try with_reducible rfl)); (try simp only [Act.put, List.setIfInBounds_toArray, List.set_cons_zero, List.set_cons_succ]); (try refine eagerTOpen rfl ?_)) | (refine wpEagerT_skip (by rfl) ?_; (try simp only [Act.put, List.setIfInBounds_toArray, List.set_cons_zero, List.set_cons_succ]); (try refine eagerTOpen rfl ?_))))
  (refine wpEagerT_op (by rfl) (fun K hK => ?_); go_simp; (refine (HT.out).mono ?_; rintro e y ⟨p, c, rfl, hbs, hl⟩; have HBS := Lib.hid hbs; have HL := Lib.hid hl; have hy1 : Turns (fun k => k = rb) w2 y := hy0.trans hl.2 (fun _ _ h => h); clear hbs hl); refine Shut.out hK _ _ (by assumption) ?_; clear hK K; (try simp only [Act.put, List.setIfInBounds_toArray, List.set_cons_zero, List.set_cons_succ]); (try refine eagerTOpen rfl ?_))
  refine eagerTEnd (tail1 rfl ?_)
  have HR0 : Hid (y.heap[w.heap.size]? = some (.cells zhint 40 (0, 0))) := hy1.keep H2.out.1 (by have := HRL.out; omega)
  have HR1 : Hid (y.heap[w.heap.size + 1]? = some (.cells zhint 40 (0, 0))) := hy1.keep H2.out.2.1 (by have := HRL.out; omega)
  have HLN := Lib.hid (takeB_len s 16 true)
  have HFF : Hid (∀ w', Turns (fun k => k = w.heap.size ∨ k = w.heap.size + 1) y w' → LeftR base rb (s.takeS 16 true) w w') := fun w' ht => by
    have hsame := (LeftR.trans (LeftR.same H.out HB2.out) (LeftR.trans (LeftR.same (H.out.below HB2.out) (below_drew1 _ _)) HL.out)).same1
    obtain ⟨v5, bv5, h5⟩ := HL.out.1
    refine ⟨HL.out.1.touch ht ?_, (((Turns.of_below HB2.out).trans hy1 (fun _ _ h => h)).trans ht ?_), by rw [← hsame, h5.cells.2.1]; exact ht.cell h5.cells.2.1 (by have := HRL.out; show ¬ (rb = _ ∨ rb = _); omega)⟩
    · intro k M t fr hk ht hs
      rcases hs with rfl | rfl
      · exact kindhint HR0.out _ _ _ hk ht
      · exact kindhint HR1.out _ _ _ hk ht
    · intro i hi hs
      omega
  have HID : Hid (s.idV 16 = s.takeB 16 true ++ List.replicate (16 - (s.takeB 16 true).length) 0) := rfl
  have hy2 : w2.heap.size ≤ y.heap.size := hy1.size
  have hsz2 := H2.out.2.2.1
  clear hy1 hy0
  generalize s.takeB 16 true = L at *
  have hlen : L.length ≤ 16 := by have := HLN.out; simp at this; omega
  have HMIN : Hid ((bytesV L).length = Nat.min L.length 16) := by
    show _ = _
    rw [bytesV_length]
    exact (Nat.min_eq_left hlen).symm
  have HFIT : Hid (0 + (bytesV L).length ≤ zhint.size) := by
    show _ ≤ _
    rw [bytesV_length, show zhint.size = 16 by rfl]
    omega
  have HPOS : Hid (0 < (bytesV L).length → some (⟨w.heap.size + 1, 0, none⟩ : Addr) = some ⟨w.heap.size + 1, 0, none⟩ ∧ ∃ ad, p = some ad ∧ ∀ j v, (bytesV L)[j]? = some v → y.cell? (ad.add j) = some v) := fun hp => by
    rw [bytesV_length] at hp
    obtain ⟨b, o, rfl⟩ := HBS.out.addr hp (by omega)
    exact ⟨rfl, _, rfl, fun j v hv => HBS.out.cell _ rfl j v hv⟩
  have HY := Lib.hid (HFF.out y (Turns.refl _ _))
  generalize hLn : L.length = m at *
  have HLn := Lib.hid hLn
  clear hLn
  have HROW : Hid ((bytesV L ++ zhint.toList.drop (bytesV L).length).toArray = idA (s.idV 16)) := by
    show _ = _
    rw [HID.out, show zhint.toList = bytesV (List.replicate 16 0) from idA_toList _]
    unfold idA
    rw [bytesV_append, bytesV_length, HLn.out]
    rw [bytesV_rep]
  have HIL : Hid ((idA (s.idV 16)).size = 16) := by
    show _ = _
    rw [idA_size, HID.out, List.length_append, List.length_replicate, HLn.out]
    omega
  have HZ : Hid ((idA (s.idV 16)).size = zhint.size) := HIL.out.trans (show 16 = zhint.size from rfl)
  generalize hX : s.idV 16 = X at *
  have HX := Lib.hid hX
  clear hX
  go_wp2_with (refine wpList_copy_turn rfl _ _ 29 29 rfl 5 Tryd.underlying29 (by kernel_rfl) _ _ _ _ _ _ rfl rfl (w.heap.size + 1) 0 zhint 40 HR1.out (bytesV L) HMIN.out HPOS.out HFIT.out (bytesV_one _) ?_)
  intro w4 HX4 ht4
  rw [HROW.out] at HX4
  have HR4 : Hid (w4.heap[w.heap.size]? = some (.cells zhint 40 (0, 0))) := ht4.keep HR0.out (by omega)
  have HT4 := Lib.hid ht4
  clear ht4
  refine noPanic_end ?_
  go_wp2_with (first
    | refine wpList_load_row rfl 40 _ rfl (w.heap.size + 1) rfl 40 (idA X) (0, 0) _ HX4.out Tryd.underlying40 rfl (infohint _ HIL.out) ?_
    | refine wpList_store_row rfl 40 _ _ rfl w.heap.size (idA X) rfl rfl 40 zhint HR4.out (infohint _ HIL.out) HZ.out.symm (idA_one _) ?_)
  have HS := Lib.hid (setRow_heap _ _ _ (idA X) _ _ HR4.out)
  refine bodyPost_ret (results_cell_row rfl _ _ _ _ _ _ _ rfl HS.out Tryd.underlying40 rfl (infohint _ HIL.out)) rfl ?_
  refine ⟨by rw [HX.out], HFF.out _ (((HT4.out.imp (fun _ _ h => .inr h)).trans (turns_setRow _ _ _) (fun _ _ h => .inl h)))⟩
end Go.Proofs.YtdaigkcbmdcbcaaDoor.Rdr

namespace Go.Proofs.YtdaigkcbmdcbcaaDoor.Rdr
open Go.RowKit Go.Mir Go.Mir.Parts

theorem infoIds : (Tryd.prog.info? 23).map (fun i => (i.zero, i.size, i.bytes)) = some (some (.agg zid), 32, 32) := by kernel_rfl
theorem made_id (w : World) (y : List UInt8) (M : Array Value) (t : TypeId) (hM : M.toList = bytesV y) (hy : y.length = 32) : Sl (w.alloc (.cells M t)) (some ⟨w.heap.size, 0, none⟩) 1 1 32 (bytesV y) :=
  ⟨by rw [bytesV_length, hy], Nat.le_refl _, by omega, fun h => (by cases h), fun a ha j u hu => by
    obtain rfl := Option.some.inj ha
    rw [add_none, cell_of_row _ _ _ _ _ _ (heap_alloc_last _ _), ← Array.getElem?_toList, hM, Nat.zero_add]; exact hu⟩
theorem Bs.dropped {w : World} {b o n c : Nat} {l : List UInt8} (h : Bs w (some ⟨b, o, none⟩) n c l) (k : Nat) (hk : k ≤ n) : Bs w (some ⟨b, if c = k then o else o + k, none⟩) (n - k) (c - k) (l.drop k) := by
  have hn := h.length
  have h1 := h.le
  have h2 := h.max
  refine ⟨by rw [bytesV_length, List.length_drop, Nat.mul_one]; omega, by omega, by omega, fun hp => (by cases hp), fun a ha j u hu => ?_⟩
  obtain rfl := Option.some.inj ha
  have hj : j < l.length - k := by
    have := (List.getElem?_eq_some_iff.1 hu).1
    rwa [bytesV_length, List.length_drop] at this
  have h3 : (bytesV l)[k + j]? = some u := by
    simp only [bytesV, List.getElem?_map, List.getElem?_drop] at hu ⊢
    exact hu
  have := h.cell _ rfl (k + j) u h3
  rw [add_none] at this ⊢
  rw [if_neg (by omega), Nat.add_assoc]
  exact this
theorem run_from32 {b o n c : Nat} (hn : 32 ≤ n) (_hc : n ≤ c) (w0 : World) : (Instr.sliceAt 29 (.slice (some ⟨b, o, none⟩) n c) (some (.int .i64 32)) none none).run Tryd.prog w0 = .ok (.slice (some ⟨b, if c = 32 then o else o + 32, none⟩) (n - 32) (c - 32)) w0 := by
  have hsz : (Tryd.prog.info? 5).map (·.size) = some 1 := by kernel_rfl
  obtain ⟨i, hi, hi1⟩ := Option.map_eq_some_iff.1 hsz
  have hb1 : (32 : Int) ≤ (n : Int) := by omega
  simp [Instr.sliceAt, Instr.slice, run_underlying Tryd.underlying29, Instr.sliceBounds, Instr.sliceBound, asIntOf, sizeOf, typeInfo, hi, hi1, hb1]
  by_cases h : c = 32 <;> simp [h, add_none]
theorem run_upto32 {b o n c : Nat} (hn : 32 ≤ n) (hc : n ≤ c) (w0 : World) : (Instr.sliceAt 29 (.slice (some ⟨b, o, none⟩) n c) none (some (.int .i64 32)) none).run Tryd.prog w0 = .ok (.slice (some ⟨b, o, none⟩) 32 c) w0 := by
  have hsz : (Tryd.prog.info? 5).map (·.size) = some 1 := by kernel_rfl
  obtain ⟨i, hi, hi1⟩ := Option.map_eq_some_iff.1 hsz
  have hb1 : (32 : Int) ≤ (c : Int) := by omega
  simp [Instr.sliceAt, Instr.slice, run_underlying Tryd.underlying29, Instr.sliceBounds, Instr.sliceBound, asIntOf, sizeOf, typeInfo, hi, hb1]
  intro _
  rw [add_none, Nat.add_zero]
theorem run_arr32 {b o c : Nat} (w0 : World) : (Instr.arrayAt 23 (.slice (some ⟨b, o, none⟩) 32 c)).run Tryd.prog w0 = .ok (.pointer (some ⟨b, o, none⟩)) w0 := by
  simp [Instr.arrayAt, run_underlying Tryd.underlying23]
def IdsP (base rb : Nat) (s : RD) (n : Int) (w : World) (e : Ending) (w' : World) : Prop :=
  ∃ p k c, (s.takeB (32 * n) true).length = 32 * k ∧ e = .returned (.slice p k c) ∧ w'.ownsRow w.heap.size 23 32 (.slice p k c) k (bytesV (s.takeB (32 * n) true)) ∧ LeftR base rb (s.takeS (32 * n) true) w w'

set_option maxRecDepth 100000 in
set_option maxHeartbeats 1600000 in
theorem ids_any {base rb : Nat} {s : RD} (w : World) (h : RAt w base rb s) (n : Int) (hn : -9223372036854775808 ≤ n ∧ n ≤ 9223372036854775807) :
    Calls Tryd.prog 37 #[.pointer (some ⟨rb, 0, none⟩), .int .i64 n] w (IdsP base rb s n w) := by
  have H := Lib.hid h
  obtain ⟨v, bv, h⟩ := h
  obtain ⟨_, _, _, hc3, _⟩ := h.cells
  have HI := Lib.hid h
  obtain ⟨l, pos, bad⟩ := s
  have hlen : l.length ≤ 140737488355328 := h.len
  have hat : pos ≤ l.length := h.at1
  obtain ⟨q, hq0⟩ : ∃ q, l.length - pos = q := ⟨_, rfl⟩
  cases bad with
  | some b =>
    obtain ⟨_, _, fb, a0, hbv, _⟩ := h.fault
    rw [hbv] at hc3
    clear h hbv
    have HE : Hid (∀ N fits, RD.takeB ⟨l, pos, some b⟩ N fits = [] ∧ RD.takeS ⟨l, pos, some b⟩ N fits = ⟨l, pos, some b⟩) := fun N fits => by
      unfold RD.takeB RD.takeS
      exact ⟨by rw [if_neg (by simp)], by rw [if_pos (by simp)]⟩
    have HEI : Hid (∀ w2 wt, Below w.heap.size w w2 → LeftR base rb ⟨l, pos, some b⟩ w2 wt → ∀ po co w', w'.ownsRow wt.heap.size 23 32 (.slice po 0 co) 0 (bytesV []) → Below wt.heap.size wt w' → IdsP base rb ⟨l, pos, some b⟩ n w (.returned (.slice po 0 co)) w') := fun w2 wt hb2 hl po co w' ho hb => by
      have h1 := HE.out (32 * n) true
      refine ⟨po, 0, co, by rw [h1.1]; rfl, rfl, ?_, by rw [h1.2]; exact ((LeftR.same H.out hb2).trans hl).trans (LeftR.same hl.1 hb)⟩
      rw [h1.1]
      refine own_base ho (fun i hi => ?_)
      have := (ho.lt i hi).1
      have := hl.2.size
      have := hb2.size
      omega
    by_cases hneg : n < 0
    · have hd0 : decide ((0 : Int) ≤ n) = false := decide_eq_false (by omega)
      go_enter Tryd.func37, Tryd.ntmps37
      go_wp2_with fail
      refine (none_any w H.out).mono ?_
      rintro e w' ⟨rfl, rfl⟩
      go_wp2_with fail
      refine (left_any w H.out).mono ?_
      rintro e w2 ⟨rfl, hb2⟩
      have HBX := Lib.hid hb2
      have H2 := Lib.hid (H.out.below hb2)
      clear hb2
      dsimp only
      rw [hq0]
      obtain ⟨N0, hN0⟩ : ∃ N0 : Int, N0 = 0 := ⟨_, rfl⟩
      obtain ⟨f0, hf0⟩ : ∃ f0 : Bool, f0 = false := ⟨_, rfl⟩
      have HN0 : Hid (-9223372036854775808 ≤ N0 ∧ N0 ≤ 9223372036854775807) := by show _ ∧ _; omega
      have HLB := Lib.hid (HE.out N0 f0).1
      have HF : Hid (∀ wt, LeftR base rb (RD.takeS ⟨l, pos, some b⟩ N0 f0) w2 wt → ∀ po co w', w'.ownsRow wt.heap.size 23 32 (.slice po 0 co) 0 (bytesV []) → Below wt.heap.size wt w' → IdsP base rb ⟨l, pos, some b⟩ n w (.returned (.slice po 0 co)) w') := fun wt hl => by
        rw [(HE.out _ _).2] at hl
        exact HEI.out w2 wt HBX.out hl
      have HT := Lib.hid (take_any w2 H2.out N0 HN0.out f0)
      obtain ⟨L, hL⟩ : ∃ L : List UInt8, L = [] := ⟨_, rfl⟩
      obtain ⟨kk, hkk⟩ : ∃ kk, kk = 0 := ⟨_, rfl⟩
      have HLL : Hid (L.length = 32 * kk) := by show _ = _; rw [hL, hkk]; rfl
      have hkb : 32 * kk ≤ 140737488355328 := by omega
      rw [← hL] at HF HLB
      rw [← hkk] at HF
      rw [hN0, hf0] at HT HF HLB
      clear hL hkk
      go_wp2_with fail
      refine HT.out.mono ?_
      rintro e wt ⟨p, c, rfl, hbs, hl⟩
      rw [HLB.out] at hbs ⊢
      rw [HLL.out] at hbs ⊢
      have HL := Lib.hid hl
      have HFIN := Lib.hid (HF.out wt hl)
      have HBS := Lib.hid hbs
      clear hl hbs
      go_wp2_with fail
      go_loopw [6, 7] (fun vo vb wr => ∃ (k r : Nat) (q : Option Addr) (cq : Nat) (po : Option Addr) (co : Nat), k + r = kk ∧ vb = .slice q (32 * r) cq ∧ (∀ w', Below wt.heap.size wt w' → Bs w' q (32 * r) cq (L.drop (32 * k))) ∧ vo = .slice po k co ∧ wr.ownsRow wt.heap.size 23 32 (.slice po k co) k (bytesV (L.take (32 * k))) ∧ Below wt.heap.size wt wr) (fun _ vb _ => match vb with | .slice _ n _ => n | _ => 0)
      case atStart => exact ⟨0, kk, p, c, none, 0, by omega, rfl, fun w' hb => HBS.out.below hb, rfl, ⟨rfl, .inl ⟨rfl, rfl⟩⟩, Below.refl _ _⟩
      case round =>
        obtain ⟨k, r, q, cq, po, co, hkr, rfl, hbq, rfl, hown, hbw⟩ := hrel
        have HBQA := Lib.hid hbq
        have hbq := hbq _ hbw
        have HBQ := Lib.hid hbq
        have HOW := Lib.hid hown
        have HBW := Lib.hid hbw
        have hcq := hbq.le
        have hcm := hbq.max
        clear hbq hown hbw
        cases r with
        | zero =>
          obtain rfl : k = kk := by omega
          have hfull : L.take (32 * k) = L := List.take_of_length_le (by rw [HLL.out]; omega)
          rw [hfull] at HOW
          have hd : decide (((32 * 0 : Nat) : Int) > 0) = false := by decide
          go_wp2_with fail
          go_ret
          exact HFIN.out po co _ HOW.out HBW.out
        | succ r =>
          have hd : decide ((0 : Int) < ((32 * (r + 1) : Nat) : Int)) = true := decide_eq_true (by omega)
          obtain ⟨b, o, rfl⟩ := HBQ.out.addr (by omega) (by omega)
          have hs1 := run_from32 (b := b) (o := o) (n := 32 * (r + 1)) (c := cq) (by omega) hcq
          have hs2 := run_upto32 (b := b) (o := o) (n := 32 * (r + 1)) (c := cq) (by omega) hcq
          have hs3 := run_arr32 (b := b) (o := o) (c := cq)
          have HYL : Hid (((L.drop (32 * k)).take 32).length = 32) := by show _ = _; rw [List.length_take, List.length_drop, HLL.out]; omega
          have HTK : Hid (L.take (32 * (k + 1)) = L.take (32 * k) ++ (L.drop (32 * k)).take 32) := by show _ = _; rw [Nat.mul_add, List.take_add]
          have HDK : Hid ((L.drop (32 * k)).drop 32 = L.drop (32 * (k + 1))) := by show _ = _; rw [List.drop_drop]; rfl
          have HRG : Hid (wr.rangeAt b o (idA ((L.drop (32 * k)).take 32)).toList) := fun j v hv => by
            rw [idA_toList] at hv
            have h1 : (bytesV (L.drop (32 * k)))[j]? = some v := by
              simp only [bytesV, List.getElem?_map, List.getElem?_take] at hv ⊢
              split at hv
              · exact hv
              · simp at hv
            exact HBQ.out.at h1
          have HBD : Hid (∀ w', Below wt.heap.size wt w' → Bs w' (some ⟨b, if cq = 32 then o else o + 32, none⟩) (32 * r) (cq - 32) (L.drop (32 * (k + 1)))) := fun w' hb => by
            have := Bs.dropped (HBQA.out w' hb) 32 (by omega)
            rw [HDK.out, show 32 * (r + 1) - 32 = 32 * r by omega] at this
            exact this
          clear HBQA
          generalize hY : (L.drop (32 * k)).take 32 = Y at *
          have HYS : Hid ((idA Y).size = 32) := by show _ = _; rw [idA_size, HYL.out]
          have HYT : Hid ((idA Y).toList.length = 32) := by show _ = _; rw [Array.length_toList, HYS.out]
          have HSL : Hid (Sl (wr.alloc (.cells (idA Y) 23)) (some ⟨wr.heap.size, 0, none⟩) 1 1 32 (bytesV Y)) := made_id wr Y _ _ (idA_toList Y) HYL.out
          have HO5 : Hid ((wr.alloc (.cells (idA Y) 23)).ownsRow wt.heap.size 23 32 (.slice po k co) k (bytesV (L.take (32 * k)))) := HOW.out.alloc _
          have HSZ4 : Hid (wt.heap.size ≤ (wr.alloc (.cells (idA Y) 23)).heap.size) := by have := HBW.out.size; show _ ≤ _; simp; omega
          clear hY
          go_wp2_with (first
            | refine wpList_load_mid rfl 23 _ rfl b o rfl (idA Y).toList _ HRG.out Tryd.underlying23 rfl (infoid (idA Y) HYS.out) ?_
            | refine wpList_buildOne rfl 24 23 _ rfl (idA Y) rfl 32 Tryd.underlying24 (by kernel_rfl) (by omega) (by omega) HYS.out ?_
            | (at_builtin; refine wpList_append_nx rfl _ _ 24 rfl (base := wt.heap.size) Tryd.underlying24 infoIds (by rfl) (by omega) rfl HO5.out rfl HSL.out (bytesV_one _) (by omega) HSZ4.out ?_))
          intro p' c' w5 hown hg hnx hne
          have HO6 := Lib.hid hown
          have hb5 : Below wt.heap.size wt w5 := (HBW.out.alloc HBW.out.size _).grown hg HSZ4.out (fun i hi => (HO5.out.lt i hi).1)
          have HB5 := Lib.hid hb5
          clear hown hg hnx hne hb5
          go_wp2_with fail
          go_roundw
          case rel =>
            exact ⟨k + 1, r, _, _, p', c', by omega, by rw [show 32 * (r + 1) - 32 = 32 * r by omega], HBD.out, rfl, by have := HO6.out; rw [HTK.out, bytesV_append]; exact this, HB5.out⟩
          case measure => simp; omega
    · obtain ⟨m, rfl⟩ : ∃ m : Nat, n = (m : Int) := ⟨n.toNat, by omega⟩
      by_cases hq : (q : Int) / 32 < (m : Int)
      · have hd1 : decide ((0 : Int) ≤ (m : Int)) = true := decide_eq_true (by omega)
        go_enter Tryd.func37, Tryd.ntmps37
        go_wp2_with fail
        refine (none_any w H.out).mono ?_
        rintro e w' ⟨rfl, rfl⟩
        go_wp2_with fail
        refine (left_any w H.out).mono ?_
        rintro e w2 ⟨rfl, hb2⟩
        have HBX := Lib.hid hb2
        have H2 := Lib.hid (H.out.below hb2)
        clear hb2
        dsimp only
        rw [hq0]
        obtain ⟨N0, hN0⟩ : ∃ N0 : Int, N0 = 32 * ((q : Int) / 32) := ⟨_, rfl⟩
        obtain ⟨f0, hf0⟩ : ∃ f0 : Bool, f0 = true := ⟨_, rfl⟩
        have HN0 : Hid (-9223372036854775808 ≤ N0 ∧ N0 ≤ 9223372036854775807) := by show _ ∧ _; omega
        have HLB := Lib.hid (HE.out N0 f0).1
        have HF : Hid (∀ wt, LeftR base rb (RD.takeS ⟨l, pos, some b⟩ N0 f0) w2 wt → ∀ po co w', w'.ownsRow wt.heap.size 23 32 (.slice po 0 co) 0 (bytesV []) → Below wt.heap.size wt w' → IdsP base rb ⟨l, pos, some b⟩ (m : Int) w (.returned (.slice po 0 co)) w') := fun wt hl => by
          rw [(HE.out _ _).2] at hl
          exact HEI.out w2 wt HBX.out hl
        have HT := Lib.hid (take_any w2 H2.out N0 HN0.out f0)
        obtain ⟨L, hL⟩ : ∃ L : List UInt8, L = [] := ⟨_, rfl⟩
        obtain ⟨kk, hkk⟩ : ∃ kk, kk = 0 := ⟨_, rfl⟩
        have HLL : Hid (L.length = 32 * kk) := by show _ = _; rw [hL, hkk]; rfl
        have hkb : 32 * kk ≤ 140737488355328 := by omega
        rw [← hL] at HF HLB
        rw [← hkk] at HF
        rw [hN0, hf0] at HT HF HLB
        clear hL hkk
        go_wp2_with fail
        refine HT.out.mono ?_
        rintro e wt ⟨p, c, rfl, hbs, hl⟩
        rw [HLB.out] at hbs ⊢
        rw [HLL.out] at hbs ⊢
        have HL := Lib.hid hl
        have HFIN := Lib.hid (HF.out wt hl)
        have HBS := Lib.hid hbs
        clear hl hbs
        go_wp2_with fail
        go_loopw [6, 7] (fun vo vb wr => ∃ (k r : Nat) (q : Option Addr) (cq : Nat) (po : Option Addr) (co : Nat), k + r = kk ∧ vb = .slice q (32 * r) cq ∧ (∀ w', Below wt.heap.size wt w' → Bs w' q (32 * r) cq (L.drop (32 * k))) ∧ vo = .slice po k co ∧ wr.ownsRow wt.heap.size 23 32 (.slice po k co) k (bytesV (L.take (32 * k))) ∧ Below wt.heap.size wt wr) (fun _ vb _ => match vb with | .slice _ n _ => n | _ => 0)
        case atStart => exact ⟨0, kk, p, c, none, 0, by omega, rfl, fun w' hb => HBS.out.below hb, rfl, ⟨rfl, .inl ⟨rfl, rfl⟩⟩, Below.refl _ _⟩
        case round =>
          obtain ⟨k, r, q, cq, po, co, hkr, rfl, hbq, rfl, hown, hbw⟩ := hrel
          have HBQA := Lib.hid hbq
          have hbq := hbq _ hbw
          have HBQ := Lib.hid hbq
          have HOW := Lib.hid hown
          have HBW := Lib.hid hbw
          have hcq := hbq.le
          have hcm := hbq.max
          clear hbq hown hbw
          cases r with
          | zero =>
            obtain rfl : k = kk := by omega
            have hfull : L.take (32 * k) = L := List.take_of_length_le (by rw [HLL.out]; omega)
            rw [hfull] at HOW
            have hd : decide (((32 * 0 : Nat) : Int) > 0) = false := by decide
            go_wp2_with fail
            go_ret
            exact HFIN.out po co _ HOW.out HBW.out
          | succ r =>
            have hd : decide ((0 : Int) < ((32 * (r + 1) : Nat) : Int)) = true := decide_eq_true (by omega)
            obtain ⟨b, o, rfl⟩ := HBQ.out.addr (by omega) (by omega)
            have hs1 := run_from32 (b := b) (o := o) (n := 32 * (r + 1)) (c := cq) (by omega) hcq
            have hs2 := run_upto32 (b := b) (o := o) (n := 32 * (r + 1)) (c := cq) (by omega) hcq
            have hs3 := run_arr32 (b := b) (o := o) (c := cq)
            have HYL : Hid (((L.drop (32 * k)).take 32).length = 32) := by show _ = _; rw [List.length_take, List.length_drop, HLL.out]; omega
            have HTK : Hid (L.take (32 * (k + 1)) = L.take (32 * k) ++ (L.drop (32 * k)).take 32) := by show _ = _; rw [Nat.mul_add, List.take_add]
            have HDK : Hid ((L.drop (32 * k)).drop 32 = L.drop (32 * (k + 1))) := by show _ = _; rw [List.drop_drop]; rfl
            have HRG : Hid (wr.rangeAt b o (idA ((L.drop (32 * k)).take 32)).toList) := fun j v hv => by
              rw [idA_toList] at hv
              have h1 : (bytesV (L.drop (32 * k)))[j]? = some v := by
                simp only [bytesV, List.getElem?_map, List.getElem?_take] at hv ⊢
                split at hv
                · exact hv
                · simp at hv
              exact HBQ.out.at h1
            have HBD : Hid (∀ w', Below wt.heap.size wt w' → Bs w' (some ⟨b, if cq = 32 then o else o + 32, none⟩) (32 * r) (cq - 32) (L.drop (32 * (k + 1)))) := fun w' hb => by
              have := Bs.dropped (HBQA.out w' hb) 32 (by omega)
              rw [HDK.out, show 32 * (r + 1) - 32 = 32 * r by omega] at this
              exact this
            clear HBQA
            generalize hY : (L.drop (32 * k)).take 32 = Y at *
            have HYS : Hid ((idA Y).size = 32) := by show _ = _; rw [idA_size, HYL.out]
            have HYT : Hid ((idA Y).toList.length = 32) := by show _ = _; rw [Array.length_toList, HYS.out]
            have HSL : Hid (Sl (wr.alloc (.cells (idA Y) 23)) (some ⟨wr.heap.size, 0, none⟩) 1 1 32 (bytesV Y)) := made_id wr Y _ _ (idA_toList Y) HYL.out
            have HO5 : Hid ((wr.alloc (.cells (idA Y) 23)).ownsRow wt.heap.size 23 32 (.slice po k co) k (bytesV (L.take (32 * k)))) := HOW.out.alloc _
            have HSZ4 : Hid (wt.heap.size ≤ (wr.alloc (.cells (idA Y) 23)).heap.size) := by have := HBW.out.size; show _ ≤ _; simp; omega
            clear hY
            go_wp2_with (first
              | refine wpList_load_mid rfl 23 _ rfl b o rfl (idA Y).toList _ HRG.out Tryd.underlying23 rfl (infoid (idA Y) HYS.out) ?_
              | refine wpList_buildOne rfl 24 23 _ rfl (idA Y) rfl 32 Tryd.underlying24 (by kernel_rfl) (by omega) (by omega) HYS.out ?_
              | (at_builtin; refine wpList_append_nx rfl _ _ 24 rfl (base := wt.heap.size) Tryd.underlying24 infoIds (by rfl) (by omega) rfl HO5.out rfl HSL.out (bytesV_one _) (by omega) HSZ4.out ?_))
            intro p' c' w5 hown hg hnx hne
            have HO6 := Lib.hid hown
            have hb5 : Below wt.heap.size wt w5 := (HBW.out.alloc HBW.out.size _).grown hg HSZ4.out (fun i hi => (HO5.out.lt i hi).1)
            have HB5 := Lib.hid hb5
            clear hown hg hnx hne hb5
            go_wp2_with fail
            go_roundw
            case rel =>
              exact ⟨k + 1, r, _, _, p', c', by omega, by rw [show 32 * (r + 1) - 32 = 32 * r by omega], HBD.out, rfl, by have := HO6.out; rw [HTK.out, bytesV_append]; exact this, HB5.out⟩
            case measure => simp; omega
      · have hd1 : decide ((0 : Int) ≤ (m : Int)) = true := decide_eq_true (by omega)
        go_enter Tryd.func37, Tryd.ntmps37
        go_wp2_with fail
        refine (none_any w H.out).mono ?_
        rintro e w' ⟨rfl, rfl⟩
        go_wp2_with fail
        refine (left_any w H.out).mono ?_
        rintro e w2 ⟨rfl, hb2⟩
        have HBX := Lib.hid hb2
        have H2 := Lib.hid (H.out.below hb2)
        clear hb2
        dsimp only
        rw [hq0]
        obtain ⟨N0, hN0⟩ : ∃ N0 : Int, N0 = 32 * (m : Int) := ⟨_, rfl⟩
        obtain ⟨f0, hf0⟩ : ∃ f0 : Bool, f0 = true := ⟨_, rfl⟩
        have HN0 : Hid (-9223372036854775808 ≤ N0 ∧ N0 ≤ 9223372036854775807) := by show _ ∧ _; omega
        have HLB := Lib.hid (HE.out N0 f0).1
        have HF : Hid (∀ wt, LeftR base rb (RD.takeS ⟨l, pos, some b⟩ N0 f0) w2 wt → ∀ po co w', w'.ownsRow wt.heap.size 23 32 (.slice po 0 co) 0 (bytesV []) → Below wt.heap.size wt w' → IdsP base rb ⟨l, pos, some b⟩ (m : Int) w (.returned (.slice po 0 co)) w') := fun wt hl => by
          rw [(HE.out _ _).2] at hl
          exact HEI.out w2 wt HBX.out hl
        have HT := Lib.hid (take_any w2 H2.out N0 HN0.out f0)
        obtain ⟨L, hL⟩ : ∃ L : List UInt8, L = [] := ⟨_, rfl⟩
        obtain ⟨kk, hkk⟩ : ∃ kk, kk = 0 := ⟨_, rfl⟩
        have HLL : Hid (L.length = 32 * kk) := by show _ = _; rw [hL, hkk]; rfl
        have hkb : 32 * kk ≤ 140737488355328 := by omega
        rw [← hL] at HF HLB
        rw [← hkk] at HF
        rw [hN0, hf0] at HT HF HLB
        clear hL hkk
        go_wp2_with fail
        refine HT.out.mono ?_
        rintro e wt ⟨p, c, rfl, hbs, hl⟩
        rw [HLB.out] at hbs ⊢
        rw [HLL.out] at hbs ⊢
        have HL := Lib.hid hl
        have HFIN := Lib.hid (HF.out wt hl)
        have HBS := Lib.hid hbs
        clear hl hbs
        go_wp2_with fail
        go_loopw [6, 7] (fun vo vb wr => ∃ (k r : Nat) (q : Option Addr) (cq : Nat) (po : Option Addr) (co : Nat), k + r = kk ∧ vb = .slice q (32 * r) cq ∧ (∀ w', Below wt.heap.size wt w' → Bs w' q (32 * r) cq (L.drop (32 * k))) ∧ vo = .slice po k co ∧ wr.ownsRow wt.heap.size 23 32 (.slice po k co) k (bytesV (L.take (32 * k))) ∧ Below wt.heap.size wt wr) (fun _ vb _ => match vb with | .slice _ n _ => n | _ => 0)
        case atStart => exact ⟨0, kk, p, c, none, 0, by omega, rfl, fun w' hb => HBS.out.below hb, rfl, ⟨rfl, .inl ⟨rfl, rfl⟩⟩, Below.refl _ _⟩
        case round =>
          obtain ⟨k, r, q, cq, po, co, hkr, rfl, hbq, rfl, hown, hbw⟩ := hrel
          have HBQA := Lib.hid hbq
          have hbq := hbq _ hbw
          have HBQ := Lib.hid hbq
          have HOW := Lib.hid hown
          have HBW := Lib.hid hbw
          have hcq := hbq.le
          have hcm := hbq.max
          clear hbq hown hbw
          cases r with
          | zero =>
            obtain rfl : k = kk := by omega
            have hfull : L.take (32 * k) = L := List.take_of_length_le (by rw [HLL.out]; omega)
            rw [hfull] at HOW
            have hd : decide (((32 * 0 : Nat) : Int) > 0) = false := by decide
            go_wp2_with fail
            go_ret
            exact HFIN.out po co _ HOW.out HBW.out
          | succ r =>
            have hd : decide ((0 : Int) < ((32 * (r + 1) : Nat) : Int)) = true := decide_eq_true (by omega)
            obtain ⟨b, o, rfl⟩ := HBQ.out.addr (by omega) (by omega)
            have hs1 := run_from32 (b := b) (o := o) (n := 32 * (r + 1)) (c := cq) (by omega) hcq
            have hs2 := run_upto32 (b := b) (o := o) (n := 32 * (r + 1)) (c := cq) (by omega) hcq
            have hs3 := run_arr32 (b := b) (o := o) (c := cq)
            have HYL : Hid (((L.drop (32 * k)).take 32).length = 32) := by show _ = _; rw [List.length_take, List.length_drop, HLL.out]; omega
            have HTK : Hid (L.take (32 * (k + 1)) = L.take (32 * k) ++ (L.drop (32 * k)).take 32) := by show _ = _; rw [Nat.mul_add, List.take_add]
            have HDK : Hid ((L.drop (32 * k)).drop 32 = L.drop (32 * (k + 1))) := by show _ = _; rw [List.drop_drop]; rfl
            have HRG : Hid (wr.rangeAt b o (idA ((L.drop (32 * k)).take 32)).toList) := fun j v hv => by
              rw [idA_toList] at hv
              have h1 : (bytesV (L.drop (32 * k)))[j]? = some v := by
                simp only [bytesV, List.getElem?_map, List.getElem?_take] at hv ⊢
                split at hv
                · exact hv
                · simp at hv
              exact HBQ.out.at h1
            have HBD : Hid (∀ w', Below wt.heap.size wt w' → Bs w' (some ⟨b, if cq = 32 then o else o + 32, none⟩) (32 * r) (cq - 32) (L.drop (32 * (k + 1)))) := fun w' hb => by
              have := Bs.dropped (HBQA.out w' hb) 32 (by omega)
              rw [HDK.out, show 32 * (r + 1) - 32 = 32 * r by omega] at this
              exact this
            clear HBQA
            generalize hY : (L.drop (32 * k)).take 32 = Y at *
            have HYS : Hid ((idA Y).size = 32) := by show _ = _; rw [idA_size, HYL.out]
            have HYT : Hid ((idA Y).toList.length = 32) := by show _ = _; rw [Array.length_toList, HYS.out]
            have HSL : Hid (Sl (wr.alloc (.cells (idA Y) 23)) (some ⟨wr.heap.size, 0, none⟩) 1 1 32 (bytesV Y)) := made_id wr Y _ _ (idA_toList Y) HYL.out
            have HO5 : Hid ((wr.alloc (.cells (idA Y) 23)).ownsRow wt.heap.size 23 32 (.slice po k co) k (bytesV (L.take (32 * k)))) := HOW.out.alloc _
            have HSZ4 : Hid (wt.heap.size ≤ (wr.alloc (.cells (idA Y) 23)).heap.size) := by have := HBW.out.size; show _ ≤ _; simp; omega
            clear hY
            go_wp2_with (first
              | refine wpList_load_mid rfl 23 _ rfl b o rfl (idA Y).toList _ HRG.out Tryd.underlying23 rfl (infoid (idA Y) HYS.out) ?_
              | refine wpList_buildOne rfl 24 23 _ rfl (idA Y) rfl 32 Tryd.underlying24 (by kernel_rfl) (by omega) (by omega) HYS.out ?_
              | (at_builtin; refine wpList_append_nx rfl _ _ 24 rfl (base := wt.heap.size) Tryd.underlying24 infoIds (by rfl) (by omega) rfl HO5.out rfl HSL.out (bytesV_one _) (by omega) HSZ4.out ?_))
            intro p' c' w5 hown hg hnx hne
            have HO6 := Lib.hid hown
            have hb5 : Below wt.heap.size wt w5 := (HBW.out.alloc HBW.out.size _).grown hg HSZ4.out (fun i hi => (HO5.out.lt i hi).1)
            have HB5 := Lib.hid hb5
            clear hown hg hnx hne hb5
            go_wp2_with fail
            go_roundw
            case rel =>
              exact ⟨k + 1, r, _, _, p', c', by omega, by rw [show 32 * (r + 1) - 32 = 32 * r by omega], HBD.out, rfl, by have := HO6.out; rw [HTK.out, bytesV_append]; exact this, HB5.out⟩
            case measure => simp; omega
  | none =>
    have hbv : bv = .nilIface := h.fault
    rw [hbv] at hc3
    clear h hbv
    by_cases hq : ((l.length - pos : Nat) : Int) / 32 < n
    · obtain ⟨m, rfl⟩ : ∃ m : Nat, n = (m : Int) := ⟨n.toNat, by omega⟩
      have hS0 : Hid (RD.takeS ⟨l, pos, none⟩ (32 * (m : Int)) true = ⟨l, pos, some 2⟩) := by
        show _ = _
        unfold RD.takeS
        rw [if_neg (by simp), if_neg (by rintro (h | h); (· cases h); (· omega)), if_pos (by dsimp only; omega)]
      have hB0 : Hid (RD.takeB ⟨l, pos, none⟩ (32 * (m : Int)) true = []) := by
        show _ = _
        unfold RD.takeB
        rw [if_neg]
        rintro ⟨_, _, _, h4⟩
        dsimp only at h4
        omega
      have HFS : Hid (RD.fail ⟨l, pos, none⟩ 2 = ⟨l, pos, some 2⟩) := by show _ = _; unfold RD.fail; rw [if_pos ⟨rfl, by decide⟩]
      rw [hq0] at hq
      have hdq : decide ((q : Int) / 32 < (m : Int)) = true := decide_eq_true hq
      have hd1 : decide ((0 : Int) ≤ (m : Int)) = true := decide_eq_true (by omega)
      obtain ⟨N0, hN0⟩ : ∃ N0 : Int, N0 = 32 * ((q : Int) / 32) := ⟨_, rfl⟩
      have HN0 : Hid (-9223372036854775808 ≤ N0 ∧ N0 ≤ 9223372036854775807) := by show _ ∧ _; omega
      have HLB : Hid (RD.takeB ⟨l, pos, some 2⟩ N0 true = []) := by show _ = _; unfold RD.takeB; rw [if_neg (by simp)]
      have HLS : Hid (RD.takeS ⟨l, pos, some 2⟩ N0 true = ⟨l, pos, some 2⟩) := by show _ = _; unfold RD.takeS; rw [if_pos (by simp)]
      go_enter Tryd.func37, Tryd.ntmps37
      go_wp2_with fail
      refine (none_any w H.out).mono ?_
      rintro e w' ⟨rfl, rfl⟩
      go_wp2_with fail
      refine (left_any w H.out).mono ?_
      rintro e w1 ⟨rfl, hb1⟩
      have H1 := Lib.hid (H.out.below hb1)
      have HB1 := Lib.hid hb1
      clear hb1
      dsimp only
      rw [hq0]
      go_wp2_with fail
      refine (fail_any w1 H1.out 2 (by omega)).mono ?_
      rintro e w2 ⟨rfl, hl2⟩
      rw [HFS.out] at hl2
      have H2 := Lib.hid hl2.1
      have HL2 := Lib.hid ((LeftR.same H.out HB1.out).trans hl2)
      clear hl2
      go_wp2_with fail
      refine (left_any w2 H2.out).mono ?_
      rintro e w3 ⟨rfl, hb3⟩
      have H3 := Lib.hid (H2.out.below hb3)
      have HL3 := Lib.hid (HL2.out.trans (LeftR.same H2.out hb3))
      clear hb3
      dsimp only
      rw [hq0]
      have HT := Lib.hid (take_any w3 H3.out N0 HN0.out true)
      obtain ⟨L, hL⟩ : ∃ L : List UInt8, L = [] := ⟨_, rfl⟩
      obtain ⟨kk, hkk⟩ : ∃ kk, kk = 0 := ⟨_, rfl⟩
      have HLL : Hid (L.length = 32 * kk) := by show _ = _; rw [hL, hkk]; rfl
      have hkb : 32 * kk ≤ 140737488355328 := by omega
      have HF : Hid (∀ wt, LeftR base rb (RD.takeS ⟨l, pos, some 2⟩ N0 true) w3 wt → ∀ po co w', w'.ownsRow wt.heap.size 23 32 (.slice po kk co) kk (bytesV L) → Below wt.heap.size wt w' → IdsP base rb ⟨l, pos, none⟩ (m : Int) w (.returned (.slice po kk co)) w') := fun wt hl po co w' ho hb => by
        rw [HLS.out] at hl
        refine ⟨po, kk, co, by rw [hB0.out, hkk]; rfl, rfl, ?_, by rw [hS0.out]; exact (HL3.out.trans hl).trans (LeftR.same hl.1 hb)⟩
        rw [hB0.out, ← hL]
        refine own_base ho (fun i hi => ?_)
        have := (ho.lt i hi).1
        have := hl.2.size
        have := HL3.out.2.size
        omega
      rw [← hL] at HLB
      rw [hN0] at HT HF HLB
      clear hL hkk
      go_wp2_with fail
      refine HT.out.mono ?_
      rintro e wt ⟨p, c, rfl, hbs, hl⟩
      rw [HLB.out] at hbs ⊢
      rw [HLL.out] at hbs ⊢
      have HL := Lib.hid hl
      have HFIN := Lib.hid (HF.out wt hl)
      have HBS := Lib.hid hbs
      clear hl hbs
      go_wp2_with fail
      go_loopw [6, 7] (fun vo vb wr => ∃ (k r : Nat) (q : Option Addr) (cq : Nat) (po : Option Addr) (co : Nat), k + r = kk ∧ vb = .slice q (32 * r) cq ∧ (∀ w', Below wt.heap.size wt w' → Bs w' q (32 * r) cq (L.drop (32 * k))) ∧ vo = .slice po k co ∧ wr.ownsRow wt.heap.size 23 32 (.slice po k co) k (bytesV (L.take (32 * k))) ∧ Below wt.heap.size wt wr) (fun _ vb _ => match vb with | .slice _ n _ => n | _ => 0)
      case atStart => exact ⟨0, kk, p, c, none, 0, by omega, rfl, fun w' hb => HBS.out.below hb, rfl, ⟨rfl, .inl ⟨rfl, rfl⟩⟩, Below.refl _ _⟩
      case round =>
        obtain ⟨k, r, q, cq, po, co, hkr, rfl, hbq, rfl, hown, hbw⟩ := hrel
        have HBQA := Lib.hid hbq
        have hbq := hbq _ hbw
        have HBQ := Lib.hid hbq
        have HOW := Lib.hid hown
        have HBW := Lib.hid hbw
        have hcq := hbq.le
        have hcm := hbq.max
        clear hbq hown hbw
        cases r with
        | zero =>
          obtain rfl : k = kk := by omega
          have hfull : L.take (32 * k) = L := List.take_of_length_le (by rw [HLL.out]; omega)
          rw [hfull] at HOW
          have hd : decide (((32 * 0 : Nat) : Int) > 0) = false := by decide
          go_wp2_with fail
          go_ret
          exact HFIN.out po co _ HOW.out HBW.out
        | succ r =>
          have hd : decide ((0 : Int) < ((32 * (r + 1) : Nat) : Int)) = true := decide_eq_true (by omega)
          obtain ⟨b, o, rfl⟩ := HBQ.out.addr (by omega) (by omega)
          have hs1 := run_from32 (b := b) (o := o) (n := 32 * (r + 1)) (c := cq) (by omega) hcq
          have hs2 := run_upto32 (b := b) (o := o) (n := 32 * (r + 1)) (c := cq) (by omega) hcq
          have hs3 := run_arr32 (b := b) (o := o) (c := cq)
          have HYL : Hid (((L.drop (32 * k)).take 32).length = 32) := by show _ = _; rw [List.length_take, List.length_drop, HLL.out]; omega
          have HTK : Hid (L.take (32 * (k + 1)) = L.take (32 * k) ++ (L.drop (32 * k)).take 32) := by show _ = _; rw [Nat.mul_add, List.take_add]
          have HDK : Hid ((L.drop (32 * k)).drop 32 = L.drop (32 * (k + 1))) := by show _ = _; rw [List.drop_drop]; rfl
          have HRG : Hid (wr.rangeAt b o (idA ((L.drop (32 * k)).take 32)).toList) := fun j v hv => by
            rw [idA_toList] at hv
            have h1 : (bytesV (L.drop (32 * k)))[j]? = some v := by
              simp only [bytesV, List.getElem?_map, List.getElem?_take] at hv ⊢
              split at hv
              · exact hv
              · simp at hv
            exact HBQ.out.at h1
          have HBD : Hid (∀ w', Below wt.heap.size wt w' → Bs w' (some ⟨b, if cq = 32 then o else o + 32, none⟩) (32 * r) (cq - 32) (L.drop (32 * (k + 1)))) := fun w' hb => by
            have := Bs.dropped (HBQA.out w' hb) 32 (by omega)
            rw [HDK.out, show 32 * (r + 1) - 32 = 32 * r by omega] at this
            exact this
          clear HBQA
          generalize hY : (L.drop (32 * k)).take 32 = Y at *
          have HYS : Hid ((idA Y).size = 32) := by show _ = _; rw [idA_size, HYL.out]
          have HYT : Hid ((idA Y).toList.length = 32) := by show _ = _; rw [Array.length_toList, HYS.out]
          have HSL : Hid (Sl (wr.alloc (.cells (idA Y) 23)) (some ⟨wr.heap.size, 0, none⟩) 1 1 32 (bytesV Y)) := made_id wr Y _ _ (idA_toList Y) HYL.out
          have HO5 : Hid ((wr.alloc (.cells (idA Y) 23)).ownsRow wt.heap.size 23 32 (.slice po k co) k (bytesV (L.take (32 * k)))) := HOW.out.alloc _
          have HSZ4 : Hid (wt.heap.size ≤ (wr.alloc (.cells (idA Y) 23)).heap.size) := by have := HBW.out.size; show _ ≤ _; simp; omega
          clear hY
          go_wp2_with (first
            | refine wpList_load_mid rfl 23 _ rfl b o rfl (idA Y).toList _ HRG.out Tryd.underlying23 rfl (infoid (idA Y) HYS.out) ?_
            | refine wpList_buildOne rfl 24 23 _ rfl (idA Y) rfl 32 Tryd.underlying24 (by kernel_rfl) (by omega) (by omega) HYS.out ?_
            | (at_builtin; refine wpList_append_nx rfl _ _ 24 rfl (base := wt.heap.size) Tryd.underlying24 infoIds (by rfl) (by omega) rfl HO5.out rfl HSL.out (bytesV_one _) (by omega) HSZ4.out ?_))
          intro p' c' w5 hown hg hnx hne
          have HO6 := Lib.hid hown
          have hb5 : Below wt.heap.size wt w5 := (HBW.out.alloc HBW.out.size _).grown hg HSZ4.out (fun i hi => (HO5.out.lt i hi).1)
          have HB5 := Lib.hid hb5
          clear hown hg hnx hne hb5
          go_wp2_with fail
          go_roundw
          case rel =>
            exact ⟨k + 1, r, _, _, p', c', by omega, by rw [show 32 * (r + 1) - 32 = 32 * r by omega], HBD.out, rfl, by have := HO6.out; rw [HTK.out, bytesV_append]; exact this, HB5.out⟩
          case measure => simp; omega
    · by_cases hneg : n < 0
      · rw [hq0] at hq
        have hdq : decide ((q : Int) / 32 < n) = false := decide_eq_false hq
        have hd0 : decide ((0 : Int) ≤ n) = false := decide_eq_false (by omega)
        have hS0 : Hid (RD.takeS ⟨l, pos, none⟩ (32 * n) true = ⟨l, pos, some 1⟩) := by
          show _ = _
          unfold RD.takeS
          rw [if_neg (by simp), if_pos (.inr (by omega))]
        have hB0 : Hid (RD.takeB ⟨l, pos, none⟩ (32 * n) true = []) := by
          show _ = _
          unfold RD.takeB
          rw [if_neg]
          rintro ⟨_, _, h3, h4⟩
          omega
        have HLB : Hid (RD.takeB ⟨l, pos, none⟩ 0 false = []) := by show _ = _; unfold RD.takeB; rw [if_neg (by simp)]
        have HLS : Hid (RD.takeS ⟨l, pos, none⟩ 0 false = ⟨l, pos, some 1⟩) := by show _ = _; unfold RD.takeS; rw [if_neg (by simp), if_pos (.inl rfl)]
        go_enter Tryd.func37, Tryd.ntmps37
        go_wp2_with fail
        refine (none_any w H.out).mono ?_
        rintro e w' ⟨rfl, rfl⟩
        go_wp2_with fail
        refine (left_any w H.out).mono ?_
        rintro e w1 ⟨rfl, hb1⟩
        have H1 := Lib.hid (H.out.below hb1)
        have HB1 := Lib.hid hb1
        clear hb1
        dsimp only
        rw [hq0]
        go_wp2_with fail
        refine (left_any w1 H1.out).mono ?_
        rintro e w2 ⟨rfl, hb2⟩
        have HBX := Lib.hid (HB1.out.trans (hb2.mono HB1.out.size))
        have H2 := Lib.hid (H1.out.below hb2)
        clear hb2
        dsimp only
        rw [hq0]
        have HT := Lib.hid (take_any w2 H2.out 0 (by omega) false)
        obtain ⟨L, hL⟩ : ∃ L : List UInt8, L = [] := ⟨_, rfl⟩
        obtain ⟨kk, hkk⟩ : ∃ kk, kk = 0 := ⟨_, rfl⟩
        have HLL : Hid (L.length = 32 * kk) := by show _ = _; rw [hL, hkk]; rfl
        have hkb : 32 * kk ≤ 140737488355328 := by omega
        have HF : Hid (∀ wt, LeftR base rb (RD.takeS ⟨l, pos, none⟩ 0 false) w2 wt → ∀ po co w', w'.ownsRow wt.heap.size 23 32 (.slice po kk co) kk (bytesV L) → Below wt.heap.size wt w' → IdsP base rb ⟨l, pos, none⟩ n w (.returned (.slice po kk co)) w') := fun wt hl po co w' ho hb => by
          rw [HLS.out] at hl
          refine ⟨po, kk, co, by rw [hB0.out, hkk]; rfl, rfl, ?_, by rw [hS0.out]; exact ((LeftR.same H.out HBX.out).trans hl).trans (LeftR.same hl.1 hb)⟩
          rw [hB0.out, ← hL]
          refine own_base ho (fun i hi => ?_)
          have := (ho.lt i hi).1
          have := hl.2.size
          have := HBX.out.size
          omega
        rw [← hL] at HLB
        clear hL hkk
        go_wp2_with fail
        refine HT.out.mono ?_
        rintro e wt ⟨p, c, rfl, hbs, hl⟩
        rw [HLB.out] at hbs ⊢
        rw [HLL.out] at hbs ⊢
        have HL := Lib.hid hl
        have HFIN := Lib.hid (HF.out wt hl)
        have HBS := Lib.hid hbs
        clear hl hbs
        go_wp2_with fail
        go_loopw [6, 7] (fun vo vb wr => ∃ (k r : Nat) (q : Option Addr) (cq : Nat) (po : Option Addr) (co : Nat), k + r = kk ∧ vb = .slice q (32 * r) cq ∧ (∀ w', Below wt.heap.size wt w' → Bs w' q (32 * r) cq (L.drop (32 * k))) ∧ vo = .slice po k co ∧ wr.ownsRow wt.heap.size 23 32 (.slice po k co) k (bytesV (L.take (32 * k))) ∧ Below wt.heap.size wt wr) (fun _ vb _ => match vb with | .slice _ n _ => n | _ => 0)
        case atStart => exact ⟨0, kk, p, c, none, 0, by omega, rfl, fun w' hb => HBS.out.below hb, rfl, ⟨rfl, .inl ⟨rfl, rfl⟩⟩, Below.refl _ _⟩
        case round =>
          obtain ⟨k, r, q, cq, po, co, hkr, rfl, hbq, rfl, hown, hbw⟩ := hrel
          have HBQA := Lib.hid hbq
          have hbq := hbq _ hbw
          have HBQ := Lib.hid hbq
          have HOW := Lib.hid hown
          have HBW := Lib.hid hbw
          have hcq := hbq.le
          have hcm := hbq.max
          clear hbq hown hbw
          cases r with
          | zero =>
            obtain rfl : k = kk := by omega
            have hfull : L.take (32 * k) = L := List.take_of_length_le (by rw [HLL.out]; omega)
            rw [hfull] at HOW
            have hd : decide (((32 * 0 : Nat) : Int) > 0) = false := by decide
            go_wp2_with fail
            go_ret
            exact HFIN.out po co _ HOW.out HBW.out
          | succ r =>
            have hd : decide ((0 : Int) < ((32 * (r + 1) : Nat) : Int)) = true := decide_eq_true (by omega)
            obtain ⟨b, o, rfl⟩ := HBQ.out.addr (by omega) (by omega)
            have hs1 := run_from32 (b := b) (o := o) (n := 32 * (r + 1)) (c := cq) (by omega) hcq
            have hs2 := run_upto32 (b := b) (o := o) (n := 32 * (r + 1)) (c := cq) (by omega) hcq
            have hs3 := run_arr32 (b := b) (o := o) (c := cq)
            have HYL : Hid (((L.drop (32 * k)).take 32).length = 32) := by show _ = _; rw [List.length_take, List.length_drop, HLL.out]; omega
            have HTK : Hid (L.take (32 * (k + 1)) = L.take (32 * k) ++ (L.drop (32 * k)).take 32) := by show _ = _; rw [Nat.mul_add, List.take_add]
            have HDK : Hid ((L.drop (32 * k)).drop 32 = L.drop (32 * (k + 1))) := by show _ = _; rw [List.drop_drop]; rfl
            have HRG : Hid (wr.rangeAt b o (idA ((L.drop (32 * k)).take 32)).toList) := fun j v hv => by
              rw [idA_toList] at hv
              have h1 : (bytesV (L.drop (32 * k)))[j]? = some v := by
                simp only [bytesV, List.getElem?_map, List.getElem?_take] at hv ⊢
                split at hv
                · exact hv
                · simp at hv
              exact HBQ.out.at h1
            have HBD : Hid (∀ w', Below wt.heap.size wt w' → Bs w' (some ⟨b, if cq = 32 then o else o + 32, none⟩) (32 * r) (cq - 32) (L.drop (32 * (k + 1)))) := fun w' hb => by
              have := Bs.dropped (HBQA.out w' hb) 32 (by omega)
              rw [HDK.out, show 32 * (r + 1) - 32 = 32 * r by omega] at this
              exact this
            clear HBQA
            generalize hY : (L.drop (32 * k)).take 32 = Y at *
            have HYS : Hid ((idA Y).size = 32) := by show _ = _; rw [idA_size, HYL.out]
            have HYT : Hid ((idA Y).toList.length = 32) := by show _ = _; rw [Array.length_toList, HYS.out]
            have HSL : Hid (Sl (wr.alloc (.cells (idA Y) 23)) (some ⟨wr.heap.size, 0, none⟩) 1 1 32 (bytesV Y)) := made_id wr Y _ _ (idA_toList Y) HYL.out
            have HO5 : Hid ((wr.alloc (.cells (idA Y) 23)).ownsRow wt.heap.size 23 32 (.slice po k co) k (bytesV (L.take (32 * k)))) := HOW.out.alloc _
            have HSZ4 : Hid (wt.heap.size ≤ (wr.alloc (.cells (idA Y) 23)).heap.size) := by have := HBW.out.size; show _ ≤ _; simp; omega
            clear hY
            go_wp2_with (first
              | refine wpList_load_mid rfl 23 _ rfl b o rfl (idA Y).toList _ HRG.out Tryd.underlying23 rfl (infoid (idA Y) HYS.out) ?_
              | refine wpList_buildOne rfl 24 23 _ rfl (idA Y) rfl 32 Tryd.underlying24 (by kernel_rfl) (by omega) (by omega) HYS.out ?_
              | (at_builtin; refine wpList_append_nx rfl _ _ 24 rfl (base := wt.heap.size) Tryd.underlying24 infoIds (by rfl) (by omega) rfl HO5.out rfl HSL.out (bytesV_one _) (by omega) HSZ4.out ?_))
            intro p' c' w5 hown hg hnx hne
            have HO6 := Lib.hid hown
            have hb5 : Below wt.heap.size wt w5 := (HBW.out.alloc HBW.out.size _).grown hg HSZ4.out (fun i hi => (HO5.out.lt i hi).1)
            have HB5 := Lib.hid hb5
            clear hown hg hnx hne hb5
            go_wp2_with fail
            go_roundw
            case rel =>
              exact ⟨k + 1, r, _, _, p', c', by omega, by rw [show 32 * (r + 1) - 32 = 32 * r by omega], HBD.out, rfl, by have := HO6.out; rw [HTK.out, bytesV_append]; exact this, HB5.out⟩
            case measure => simp; omega
      · obtain ⟨m, rfl⟩ : ∃ m : Nat, n = (m : Int) := ⟨n.toNat, by omega⟩
        have hB0 : RD.takeB ⟨l, pos, none⟩ (32 * (m : Int)) true = (l.drop pos).take (32 * m) := by
          unfold RD.takeB
          rw [if_pos ⟨rfl, rfl, by omega, by dsimp only; omega⟩]
          congr 1
        obtain ⟨L, hL⟩ : ∃ L, L = RD.takeB ⟨l, pos, none⟩ (32 * (m : Int)) true := ⟨_, rfl⟩
        obtain ⟨kk, hkk⟩ : ∃ kk, kk = m := ⟨_, rfl⟩
        have HLB : Hid (RD.takeB ⟨l, pos, none⟩ (32 * (m : Int)) true = L) := hL.symm
        have HLL : Hid (L.length = 32 * kk) := by show _ = _; rw [hL, hB0, List.length_take, List.length_drop, hkk]; omega
        have hkb : 32 * kk ≤ 140737488355328 := by omega
        rw [hq0] at hq
        have hdq : decide (((q : Nat) : Int) / 32 < (m : Int)) = false := decide_eq_false hq
        clear hB0 hL hkk
        go_enter Tryd.func37, Tryd.ntmps37
        go_wp2_with fail
        refine (none_any w H.out).mono ?_
        rintro e w' ⟨rfl, rfl⟩
        go_wp2_with fail
        refine (left_any w H.out).mono ?_
        rintro e w1 ⟨rfl, hb1⟩
        have H1 := Lib.hid (H.out.below hb1)
        have HB1 := Lib.hid hb1
        clear hb1
        dsimp only
        rw [hq0]
        go_wp2_with fail
        refine (left_any w1 H1.out).mono ?_
        rintro e w2 ⟨rfl, hb2⟩
        have HBX := Lib.hid (HB1.out.trans (hb2.mono HB1.out.size))
        have H2 := Lib.hid (H1.out.below hb2)
        clear hb2
        dsimp only
        rw [hq0]
        have HT := Lib.hid (take_any w2 H2.out (32 * (m : Int)) (by omega) true)
        have HF : Hid (∀ wt, LeftR base rb (RD.takeS ⟨l, pos, none⟩ (32 * (m : Int)) true) w2 wt → ∀ po co w', w'.ownsRow wt.heap.size 23 32 (.slice po kk co) kk (bytesV L) → Below wt.heap.size wt w' → IdsP base rb ⟨l, pos, none⟩ (m : Int) w (.returned (.slice po kk co)) w') := fun wt hl po co w' ho hb => by
          refine ⟨po, kk, co, by rw [HLB.out, HLL.out], rfl, ?_, ((LeftR.same H.out HBX.out).trans hl).trans (LeftR.same hl.1 hb)⟩
          rw [HLB.out]
          refine own_base ho (fun i hi => ?_)
          have := (ho.lt i hi).1
          have := hl.2.size
          have := HBX.out.size
          omega
        go_wp2_with fail
        refine HT.out.mono ?_
        rintro e wt ⟨p, c, rfl, hbs, hl⟩
        rw [HLB.out] at hbs ⊢
        rw [HLL.out] at hbs ⊢
        have HL := Lib.hid hl
        have HFIN := Lib.hid (HF.out wt hl)
        have HBS := Lib.hid hbs
        clear hl hbs
        go_wp2_with fail
        go_loopw [6, 7] (fun vo vb wr => ∃ (k r : Nat) (q : Option Addr) (cq : Nat) (po : Option Addr) (co : Nat), k + r = kk ∧ vb = .slice q (32 * r) cq ∧ (∀ w', Below wt.heap.size wt w' → Bs w' q (32 * r) cq (L.drop (32 * k))) ∧ vo = .slice po k co ∧ wr.ownsRow wt.heap.size 23 32 (.slice po k co) k (bytesV (L.take (32 * k))) ∧ Below wt.heap.size wt wr) (fun _ vb _ => match vb with | .slice _ n _ => n | _ => 0)
        case atStart => exact ⟨0, kk, p, c, none, 0, by omega, rfl, fun w' hb => HBS.out.below hb, rfl, ⟨rfl, .inl ⟨rfl, rfl⟩⟩, Below.refl _ _⟩
        case round =>
          obtain ⟨k, r, q, cq, po, co, hkr, rfl, hbq, rfl, hown, hbw⟩ := hrel
          have HBQA := Lib.hid hbq
          have hbq := hbq _ hbw
          have HBQ := Lib.hid hbq
          have HOW := Lib.hid hown
          have HBW := Lib.hid hbw
          have hcq := hbq.le
          have hcm := hbq.max
          clear hbq hown hbw
          cases r with
          | zero =>
            obtain rfl : k = kk := by omega
            have hfull : L.take (32 * k) = L := List.take_of_length_le (by rw [HLL.out]; omega)
            rw [hfull] at HOW
            have hd : decide (((32 * 0 : Nat) : Int) > 0) = false := by decide
            go_wp2_with fail
            go_ret
            exact HFIN.out po co _ HOW.out HBW.out
          | succ r =>
            have hd : decide ((0 : Int) < ((32 * (r + 1) : Nat) : Int)) = true := decide_eq_true (by omega)
            obtain ⟨b, o, rfl⟩ := HBQ.out.addr (by omega) (by omega)
            have hs1 := run_from32 (b := b) (o := o) (n := 32 * (r + 1)) (c := cq) (by omega) hcq
            have hs2 := run_upto32 (b := b) (o := o) (n := 32 * (r + 1)) (c := cq) (by omega) hcq
            have hs3 := run_arr32 (b := b) (o := o) (c := cq)
            have HYL : Hid (((L.drop (32 * k)).take 32).length = 32) := by show _ = _; rw [List.length_take, List.length_drop, HLL.out]; omega
            have HTK : Hid (L.take (32 * (k + 1)) = L.take (32 * k) ++ (L.drop (32 * k)).take 32) := by show _ = _; rw [Nat.mul_add, List.take_add]
            have HDK : Hid ((L.drop (32 * k)).drop 32 = L.drop (32 * (k + 1))) := by show _ = _; rw [List.drop_drop]; rfl
            have HRG : Hid (wr.rangeAt b o (idA ((L.drop (32 * k)).take 32)).toList) := fun j v hv => by
              rw [idA_toList] at hv
              have h1 : (bytesV (L.drop (32 * k)))[j]? = some v := by
                simp only [bytesV, List.getElem?_map, List.getElem?_take] at hv ⊢
                split at hv
                · exact hv
                · simp at hv
              exact HBQ.out.at h1
            have HBD : Hid (∀ w', Below wt.heap.size wt w' → Bs w' (some ⟨b, if cq = 32 then o else o + 32, none⟩) (32 * r) (cq - 32) (L.drop (32 * (k + 1)))) := fun w' hb => by
              have := Bs.dropped (HBQA.out w' hb) 32 (by omega)
              rw [HDK.out, show 32 * (r + 1) - 32 = 32 * r by omega] at this
              exact this
            clear HBQA
            generalize hY : (L.drop (32 * k)).take 32 = Y at *
            have HYS : Hid ((idA Y).size = 32) := by show _ = _; rw [idA_size, HYL.out]
            have HYT : Hid ((idA Y).toList.length = 32) := by show _ = _; rw [Array.length_toList, HYS.out]
            have HSL : Hid (Sl (wr.alloc (.cells (idA Y) 23)) (some ⟨wr.heap.size, 0, none⟩) 1 1 32 (bytesV Y)) := made_id wr Y _ _ (idA_toList Y) HYL.out
            have HO5 : Hid ((wr.alloc (.cells (idA Y) 23)).ownsRow wt.heap.size 23 32 (.slice po k co) k (bytesV (L.take (32 * k)))) := HOW.out.alloc _
            have HSZ4 : Hid (wt.heap.size ≤ (wr.alloc (.cells (idA Y) 23)).heap.size) := by have := HBW.out.size; show _ ≤ _; simp; omega
            clear hY
            go_wp2_with (first
              | refine wpList_load_mid rfl 23 _ rfl b o rfl (idA Y).toList _ HRG.out Tryd.underlying23 rfl (infoid (idA Y) HYS.out) ?_
              | refine wpList_buildOne rfl 24 23 _ rfl (idA Y) rfl 32 Tryd.underlying24 (by kernel_rfl) (by omega) (by omega) HYS.out ?_
              | (at_builtin; refine wpList_append_nx rfl _ _ 24 rfl (base := wt.heap.size) Tryd.underlying24 infoIds (by rfl) (by omega) rfl HO5.out rfl HSL.out (bytesV_one _) (by omega) HSZ4.out ?_))
            intro p' c' w5 hown hg hnx hne
            have HO6 := Lib.hid hown
            have hb5 : Below wt.heap.size wt w5 := (HBW.out.alloc HBW.out.size _).grown hg HSZ4.out (fun i hi => (HO5.out.lt i hi).1)
            have HB5 := Lib.hid hb5
            clear hown hg hnx hne hb5
            go_wp2_with fail
            go_roundw
            case rel =>
              exact ⟨k + 1, r, _, _, p', c', by omega, by rw [show 32 * (r + 1) - 32 = 32 * r by omega], HBD.out, rfl, by have := HO6.out; rw [HTK.out, bytesV_append]; exact this, HB5.out⟩
            case measure => simp; omega
end Go.Proofs.YtdaigkcbmdcbcaaDoor.Rdr
