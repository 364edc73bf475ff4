/- LAYER 9: the document's example; numbers. Conditions: the laid cell of errors.errorType. -/
import Derived.Test.YtbfddfmglkhimaaDoorRdr6
namespace Go.Proofs.YtbfddfmglkhimaaDoor.Rdr
open Go.RowKit Go.Mir Go.Mir.Parts

theorem EType.left {w w' : World} {base rb : Nat} {s s' : RD} (h : EType w) (hr : RAt w base rb s) (hl : LeftR base rb s' w w') (hb : 0 < base) : EType w' :=
  h.below (hl.belowB hr (Nat.le_refl _)) hb
set_option maxRecDepth 100000 in
set_option maxHeartbeats 1600000 in
theorem alive9_any (w : World) (hE : EType w) :
    Calls Tryd.prog 12 #[] w fun e w' => e = .returned (.bool true) ∧ Below w.heap.size w w' := by
  have hge := hE.lt
  have HB0 := Lib.hid (Below.allocs w (.cells #[.int .u8 1, .int .u8 2, .int .u8 3] 5))
  have HE0 := Lib.hid (hE.below HB0.out hge)
  have HBS := Lib.hid (Bs.made w [1, 2, 3] #[.int .u8 1, .int .u8 2, .int .u8 3] 5 (0, 0) 3 rfl rfl (by omega))
  clear hE
  go_enter Tryd.func12, Tryd.ntmps12
  go_wp2_with fail
  generalize w.alloc (.cells #[.int .u8 1, .int .u8 2, .int .u8 3] 5) = w0 at *
  refine (new_any w0 _ _ _ _ HBS.out (by omega)).mono ?_
  rintro e w1 ⟨rb, rfl, hr1, hb1⟩
  have hsz := HB0.out.size
  have H1 := Lib.hid hr1
  have HE1 := Lib.hid (HE0.out.below hb1 (by omega))
  have HB1 := Lib.hid (HB0.out.trans (hb1.mono hsz))
  clear hr1 hb1
  go_wp2_with fail
  refine (num_any w1 H1.out 2 (by omega)).mono ?_
  rintro e w2 ⟨rfl, hl2⟩
  have e1 : RD.numV (RD.new [1, 2, 3]) 2 = 258 := by decide
  have e2 : RD.numS (RD.new [1, 2, 3]) 2 = ⟨[1, 2, 3], 2, none⟩ := by rfl
  rw [e2] at hl2
  rw [e1]
  have H2 := Lib.hid hl2.1
  have HB2 := Lib.hid (HB1.out.trans (hl2.belowB H1.out hsz))
  have HE2 := Lib.hid (HE1.out.left H1.out hl2 (by omega))
  clear hl2 e1 e2
  go_wp2_with fail
  refine (num_any w2 H2.out 2 (by omega)).mono ?_
  rintro e w3 ⟨rfl, hl3⟩
  have e1 : RD.numV ⟨[1, 2, 3], 2, none⟩ 2 = 0 := by decide
  have e2 : RD.numS ⟨[1, 2, 3], 2, none⟩ 2 = ⟨[1, 2, 3], 2, some 2⟩ := by rfl
  rw [e2] at hl3
  rw [e1]
  have H3 := Lib.hid hl3.1
  have HB3 := Lib.hid (HB2.out.trans (hl3.belowB H2.out hsz))
  have HE3 := Lib.hid (HE2.out.left H2.out hl3 (by omega))
  clear hl3 e1 e2
  go_wp2_with fail
  refine (err_any w3 H3.out HE3.out).mono ?_
  rintro e w4 ⟨rfl, hb4⟩
  have H4 := Lib.hid (H3.out.below hb4)
  have HB4 := Lib.hid (HB3.out.trans (hb4.mono HB3.out.size))
  clear hb4
  rw [show RD.err ⟨[1, 2, 3], 2, some 2⟩ = 2 from rfl]
  go_wp2_with fail
  refine (at_any w4 H4.out).mono ?_
  rintro e w5 ⟨rfl, rfl⟩
  go_wp2_with fail
  go_ret
  exact ⟨rfl, HB4.out⟩

/-! ### the bytes of a number -/
def numB (n : Nat) : Nat → List UInt8
  | 0 => []
  | k + 1 => UInt8.ofNat (n / 256 ^ k) :: numB n k
theorem numB_len (n k : Nat) : (numB n k).length = k := by induction k with
  | zero => rfl
  | succ k ih => simp [numB, ih]
theorem beN_fold (l : List UInt8) : ∀ a, l.foldl (fun a b => 256 * a + b.toNat) a = a * 256 ^ l.length + beN l := by
  induction l with
  | nil => intro a; simp [beN]
  | cons b l ih =>
    intro a
    show List.foldl _ (256 * a + b.toNat) l = _
    have h2 : beN (b :: l) = List.foldl (fun a b => 256 * a + b.toNat) (256 * 0 + b.toNat) l := rfl
    rw [h2, ih, ih, List.length_cons, Nat.pow_succ, Nat.add_mul, Nat.mul_zero, Nat.zero_add, Nat.mul_comm 256 a, Nat.mul_assoc, Nat.mul_comm 256 (256 ^ l.length), Nat.add_assoc]
theorem beN_numB (n k : Nat) : beN (numB n k) = n % 256 ^ k := by
  induction k with
  | zero => simp [numB, beN, Nat.mod_one]
  | succ k ih =>
    show List.foldl _ (256 * 0 + (UInt8.ofNat (n / 256 ^ k)).toNat) (numB n k) = _
    rw [beN_fold, numB_len, ih, Nat.mul_zero, Nat.zero_add, UInt8.toNat_ofNat']
    rw [show (2 : Nat) ^ 8 = 256 from rfl, Nat.pow_succ, Nat.mod_mul, Nat.mul_comm (n / 256 ^ k % 256), Nat.add_comm]
theorem numB_drop (n : Nat) : ∀ k j, j ≤ k → (numB n k).drop j = numB n (k - j) := by
  intro k
  induction k with
  | zero => intro j hj; simp [numB]
  | succ k ih =>
    intro j hj
    cases j with
    | zero => rfl
    | succ j => rw [show k + 1 - (j + 1) = k - j by omega, ← ih j (by omega)]; rfl
theorem numB_at (n k j : Nat) (h : j < k) : (numB n k)[j]? = some (UInt8.ofNat (n / 256 ^ (k - 1 - j))) := by
  have h1 := numB_drop n k j (by omega)
  have h2 : ((numB n k).drop j)[0]? = (numB n k)[j]? := by rw [List.getElem?_drop, Nat.add_zero]
  rw [← h2, h1, show k - j = (k - 1 - j) + 1 by omega]
  rfl
def NumBP (l : List UInt8) (w : World) (e : Ending) (w' : World) : Prop := ∃ p c, e = .returned (.slice p l.length c) ∧ w'.ownsRow w.heap.size 5 1 (.slice p l.length c) l.length (bytesV l) ∧ Below w.heap.size w w'
set_option maxRecDepth 100000 in
theorem number_any (w : World) (n k : Nat) (hn : n < 18446744073709551616) (hk : k ≤ 8) :
    Calls Tryd.prog 9 #[.int .u64 (n : Int), .int .i64 (k : Int)] w (NumBP (numB n k) w) := by
  have HLN := Lib.hid (numB_len n k)
  have hw1 : IntKind.i64.wrap ((k : Int) - 1) = (k : Int) - 1 := IntWalk.i64_in _ (by omega)
  go_enter Tryd.func9, Tryd.ntmps9
  go_wp2_with fail
  go_loopw [5, 6] (fun v i wr => ∃ (j : Nat) (p : Option Addr) (c : Nat), j ≤ k ∧ v = .slice p j c ∧ i = .int .i64 ((k : Int) - 1 - (j : Int)) ∧ wr.ownsRow w.heap.size 5 1 (.slice p j c) j (bytesV ((numB n k).take j)) ∧ Below w.heap.size w wr) (fun v _ _ => match v with | .slice _ j _ => k - j | _ => 0)
  case atStart => exact ⟨0, none, 0, by omega, rfl, by simp, ⟨rfl, .inl ⟨rfl, rfl⟩⟩, Below.refl _ _⟩
  case round =>
    obtain ⟨j, p, c, hj, rfl, rfl, hown, hbw⟩ := hrel
    have HOW := Lib.hid hown
    have HBW := Lib.hid hbw
    clear hown hbw
    by_cases hlt : j < k
    · have hd : decide ((0 : Int) ≤ (k : Int) - 1 - (j : Int)) = true := decide_eq_true (by omega)
      obtain ⟨i, hi⟩ : ∃ i : Nat, (i : Int) = (k : Int) - 1 - (j : Int) := ⟨k - 1 - j, by omega⟩
      rw [← hi] at hd ⊢
      have hi7 : i ≤ 7 := by omega
      have HTK := Lib.hid (numB_at n k j hlt)
      have HYV : Hid (((n : Int) / 2 ^ (8 * (k - 1 - j)) % 256) = ((UInt8.ofNat (n / 256 ^ (k - 1 - j))).toNat : Int)) := by
        show _ = _
        rw [UInt8.toNat_ofNat', show (2 : Nat) ^ 8 = 256 from rfl, show (256 : Nat) = 2 ^ 8 from rfl, ← Nat.pow_mul]
        simp
      have HTS : Hid ((numB n k).take (j + 1) = (numB n k).take j ++ [UInt8.ofNat (n / 256 ^ (k - 1 - j))]) := by
        have := take_snoc (numB n k) j (by rw [HLN.out]; exact hlt)
        rw [List.getElem?_eq_getElem (by rw [HLN.out]; exact hlt)] at HTK
        show _ = _
        rw [this, Option.some.inj HTK.out]
      generalize UInt8.ofNat (n / 256 ^ (k - 1 - j)) = y at *
      have HSL : Hid (Bs (wr.alloc (.cells #[.int .u8 ((n : Int) / 2 ^ (8 * (k - 1 - j)) % 256)] 5)) (some ⟨wr.heap.size, 0, none⟩) 1 1 [y]) := Bs.made wr [y] _ _ (0, 0) 1 (by rw [HYV.out]; rfl) rfl (by omega)
      have HO5 : Hid ((wr.alloc (.cells #[.int .u8 ((n : Int) / 2 ^ (8 * (k - 1 - j)) % 256)] 5)).ownsRow w.heap.size 5 1 (.slice p j c) j (bytesV ((numB n k).take j))) := HOW.out.alloc _
      have HSZ : Hid (w.heap.size ≤ (wr.alloc (.cells #[.int .u8 ((n : Int) / 2 ^ (8 * (k - 1 - j)) % 256)] 5)).heap.size) := by have := HBW.out.size; show _ ≤ _; simp; omega
      go_wp2_with (at_builtin; refine wpList_append_nx rfl _ _ 25 rfl (base := w.heap.size) Tryd.underlying25 info8 rfl (by omega) rfl HO5.out rfl HSL.out (bytesV_one _) (by omega) HSZ.out ?_)
      intro p' c' w5 hown hg hnx hne
      have HO6 := Lib.hid hown
      have hb5 : Below w.heap.size w w5 := (HBW.out.alloc HBW.out.size _).grown hg HSZ.out (fun i hi => (HO5.out.lt i hi).1)
      have HB5 := Lib.hid hb5
      have hwi : IntKind.i64.wrap ((i : Int) - 1) = (i : Int) - 1 := IntWalk.i64_in _ (by omega)
      clear hown hg hnx hne hb5
      go_wp2_with fail
      go_roundw
      case rel => exact ⟨j + 1, p', c', by omega, rfl, by congr 1; omega, by have := HO6.out; rw [HTS.out, bytesV_append]; exact this, HB5.out⟩
      case measure => simp; omega
    · obtain rfl : j = k := by omega
      have hd : decide ((0 : Int) ≤ (j : Int) - 1 - (j : Int)) = false := decide_eq_false (by omega)
      have hfull : (numB n j).take j = numB n j := List.take_of_length_le (by rw [HLN.out]; omega)
      rw [hfull] at HOW
      have HF : Hid (NumBP (numB n j) w (.returned (.slice p j c)) wr) := ⟨p, c, by rw [HLN.out], by rw [HLN.out]; exact HOW.out, HBW.out⟩
      go_wp2_with fail
      go_ret
      exact HF.out

theorem fits_k {k : Nat} (h : 1 ≤ k ∧ k ≤ 8) : fitsW (k : Int) = true := by unfold fitsW; simp; omega
theorem num_new {A B : List UInt8} {k : Nat} (hk : 1 ≤ k ∧ k ≤ 8) (hA : A.length = k) : RD.numV (RD.new (A ++ B)) (k : Int) = beN A ∧ RD.numS (RD.new (A ++ B)) (k : Int) = ⟨A ++ B, k, none⟩ := by
  have hf := fits_k hk
  constructor
  · unfold RD.numV RD.takeB RD.new
    rw [hf, if_pos ⟨rfl, rfl, by omega, by simp; omega⟩]
    rw [show ((k : Int)).toNat = A.length by omega, List.drop_zero, List.take_left]
  · unfold RD.numS RD.takeS RD.new
    rw [hf, if_neg (by simp), if_neg (by rintro (h | h); (· cases h); (· omega)), if_neg (by simp; omega)]
    simp
theorem num_next {A B : List UInt8} {k : Nat} (hk : 1 ≤ k ∧ k ≤ 8) (hA : A.length = k) (hB : B.length = k) : RD.numV ⟨A ++ B, k, none⟩ (k : Int) = beN B ∧ RD.numS ⟨A ++ B, k, none⟩ (k : Int) = ⟨A ++ B, k + k, none⟩ := by
  have hf := fits_k hk
  constructor
  · unfold RD.numV RD.takeB
    rw [hf, if_pos ⟨rfl, rfl, by omega, by simp; omega⟩]
    rw [show ((k : Int)).toNat = B.length by omega]
    dsimp only
    rw [← hA, List.drop_left, List.take_length]
  · unfold RD.numS RD.takeS
    rw [hf, if_neg (by simp), if_neg (by rintro (h | h); (· cases h); (· omega)), if_neg (by simp; omega)]
    simp
set_option maxRecDepth 100000 in
set_option maxHeartbeats 1600000 in
theorem law_numbers (w : World) (hE : EType w) (n m x : Nat) (hn : n < 18446744073709551616) (hm : m < 18446744073709551616) (hx : x < 256) :
    Calls Tryd.prog 3 #[.int .u64 (n : Int), .int .u64 (m : Int), .int .u8 (x : Int)] w fun e w' => e = .returned (.bool true) ∧ Below w.heap.size w w' := by
  obtain ⟨k, hk⟩ : ∃ k, 1 + x % 8 = k := ⟨_, rfl⟩
  have hk8 : 1 ≤ k ∧ k ≤ 8 := by omega
  have hmod : (x : Int) % 8 = ((k - 1 : Nat) : Int) := by omega
  have hk1 : (1 : Int) + ((k - 1 : Nat) : Int) = (k : Int) := by omega
  by_cases h8 : k < 8
  · have hd : decide ((k : Int) < 8) = true := decide_eq_true (by omega)
    go_enter Tryd.func3, Tryd.ntmps3
    have hw8 : IntKind.i64.wrap (8 * (k : Int)) = 8 * (k : Int) := IntWalk.i64_in _ (by omega)
    have hP1 : 256 ^ k ≤ 256 ^ 7 := Nat.pow_le_pow_right (by omega) (by omega)
    have hP2 : (256 : Nat) ^ 7 = 72057594037927936 := by decide
    have hP0 : 0 < 256 ^ k := Nat.pow_pos (by omega)
    have hws : IntKind.u64.wrap (2 ^ (8 * (k : Int)).toNat) = ((256 ^ k : Nat) : Int) := by
      have h1 : (2 : Int) ^ (8 * k) = ((256 ^ k : Nat) : Int) := by
        rw [show (256 : Nat) = 2 ^ 8 from rfl, ← Nat.pow_mul]
        simp
      rw [show (8 * (k : Int)).toNat = 8 * k by omega, h1, IntKind.wrap_u64]
      omega
    have HNB : Hid (beN (numB (n % 256 ^ k) k) = n % 256 ^ k ∧ beN (numB (m % 256 ^ k) k) = m % 256 ^ k) := ⟨by rw [beN_numB, Nat.mod_mod], by rw [beN_numB, Nat.mod_mod]⟩
    generalize 256 ^ k = P at *
    have hPz : ((P : Int) == 0) = false := by rw [beq_eq_false_iff_ne]; omega
    have hPz2 : ¬ (P : Int) = 0 := by omega
    have hPz3 : ¬ P = 0 := by omega
    have hPz4 : (P == 0) = false := by rw [beq_eq_false_iff_ne]; omega
    have ht1 : (n : Int).tmod (P : Int) = (n : Int) % (P : Int) := rfl
    have ht2 : (m : Int).tmod (P : Int) = (m : Int) % (P : Int) := rfl
    go_upto_region 3 with fail
    refine wp_region_grow (by kernel_rfl) (by kernel_rfl) ?_
    repeat (first
      | ((with_reducible refine wpQuietGd ?_); (with_reducible refine wpQuiet_skip ?_ ?_); (· rfl); simp only [Act.put, List.setIfInBounds_toArray, List.set_cons_zero, List.set_cons_succ])
      | quiet_step (fail))
    refine wpQuiet_nil ?_
    intro w2 hb2
    have HB2 := Lib.hid hb2
    clear hb2
    have hn0 : (n : Int) % (P : Int) = ((n % P : Nat) : Int) := rfl
    have hm0 : (m : Int) % (P : Int) = ((m % P : Nat) : Int) := rfl
    have hn1 : n % P < P := Nat.mod_lt _ hP0
    have hm1 : m % P < P := Nat.mod_lt _ hP0
    rw [hn0, hm0]
    generalize n % P = n0 at *
    generalize m % P = m0 at *
    have hn64 : n0 < 18446744073709551616 := by omega
    have hm64 : m0 < 18446744073709551616 := by omega
    clear hn0 hm0 ht1 ht2 hn1 hm1 hws hPz hPz2 hPz3 hPz4 hw8 hP1 hP2 hP0 hn hm hx
    go_wp2_with fail
    refine (number_any w2 n0 k (by omega) (by omega)).mono ?_
    rintro e w3 ⟨p3, c3, rfl, ho3, hb3⟩
    have HLA := Lib.hid (numB_len n0 k)
    have HLB := Lib.hid (numB_len m0 k)
    rw [HLA.out] at ho3 ⊢
    have HO3 := Lib.hid ho3
    have HB3 := Lib.hid (HB2.out.trans (hb3.mono HB2.out.size))
    have hs3 := hb3.size
    clear ho3 hb3
    go_wp2_with fail
    refine (number_any w3 m0 k (by omega) (by omega)).mono ?_
    rintro e w4 ⟨p4, c4, rfl, ho4, hb4⟩
    rw [HLB.out] at ho4 ⊢
    have HB4 := Lib.hid (HB3.out.trans (hb4.mono HB3.out.size))
    have HO3 := Lib.hid (own_touch HO3.out (Turns.of_below (S := fun _ => False) hb4) (fun _ _ h => h))
    obtain ⟨p4', c4', he4, HS4⟩ : ∃ p c, Value.slice p4 k c4 = .slice p k c ∧ Hid (Sl w4 p k c 1 (bytesV (numB m0 k))) := own_sl ho4
    obtain ⟨rfl, _, rfl⟩ := Value.slice.inj he4
    have hs4 := hb4.size
    clear ho4 hb4 he4
    go_wp2_with (at_builtin; refine wpList_append_nx rfl _ _ 25 rfl (base := w2.heap.size) Tryd.underlying25 info8 rfl (by omega) rfl HO3.out rfl HS4.out (bytesV_one _) ⟨by omega, by omega⟩ (by omega) ?_)
    intro p5 c5 w5 ho5 hg5 _ _
    have HB5 : Hid (Below w.heap.size w w5) := HB4.out.trans ((Below.refl _ _).grown hg5 HB4.out.size (fun i hi => by have h1 := (HO3.out.lt i hi).1; have h2 := HB2.out.size; omega))
    obtain ⟨p5', c5', he5, HS5⟩ : ∃ p c, Value.slice p5 (k + k) c5 = .slice p (k + k) c ∧ Hid (Bs w5 p (k + k) c (numB n0 k ++ numB m0 k)) := by
      rw [← bytesV_append] at ho5
      exact own_sl ho5
    obtain ⟨rfl, _, rfl⟩ := Value.slice.inj he5
    clear ho5 hg5 he5
    go_wp2_with fail
    refine (new_any w5 _ _ _ _ HS5.out (by omega)).mono ?_
    rintro e w6 ⟨rb, rfl, hr6, hb6⟩
    have HE5 := Lib.hid (hE.below HB5.out hE.lt)
    have HE6 := Lib.hid (HE5.out.below hb6 HE5.out.lt)
    have H6 := Lib.hid hr6
    have HB6 := Lib.hid (HB5.out.trans (hb6.mono HB5.out.size))
    have HG := Lib.hid HE5.out.lt
    clear hr6 hb6
    have hs5 := HB5.out.size
    obtain ⟨e1, e2⟩ := num_new (A := numB n0 k) (B := numB m0 k) hk8 HLA.out
    obtain ⟨f1, f2⟩ := num_next (A := numB n0 k) (B := numB m0 k) hk8 HLA.out HLB.out
    have HD : Hid (RD.err ⟨numB n0 k ++ numB m0 k, k + k, none⟩ = 0 ∧ RD.done ⟨numB n0 k ++ numB m0 k, k + k, none⟩ = 0) := by
      refine ⟨rfl, ?_⟩
      unfold RD.done
      rw [if_neg (by show ¬ (0 : Int) ≠ 0; simp), if_pos (by show List.length _ - (k + k) = 0; rw [List.length_append, HLA.out, HLB.out]; omega)]
    rw [HNB.out.1] at e1
    rw [HNB.out.2] at f1
    generalize numB n0 k ++ numB m0 k = AB at *
    have HE12 : Hid (_ ∧ _) := ⟨e1, e2⟩
    have HF12 : Hid (_ ∧ _) := ⟨f1, f2⟩
    clear e1 e2 f1 f2
    go_wp2_with fail
    refine (num_any w6 H6.out k (by omega)).mono ?_
    rintro e w7 ⟨rfl, hl7⟩
    rw [HE12.out.2] at hl7
    rw [HE12.out.1]
    have H7 := Lib.hid hl7.1
    have HB7 := Lib.hid (HB6.out.trans (hl7.belowB H6.out hs5))
    have HE7 := Lib.hid (HE6.out.left H6.out hl7 HG.out)
    clear hl7
    go_wp2_with fail
    refine (num_any w7 H7.out k (by omega)).mono ?_
    rintro e w8 ⟨rfl, hl8⟩
    rw [HF12.out.2] at hl8
    rw [HF12.out.1]
    have H8 := Lib.hid hl8.1
    have HB8 := Lib.hid (HB7.out.trans (hl8.belowB H7.out hs5))
    have HE8 := Lib.hid (HE7.out.left H7.out hl8 HG.out)
    clear hl8
    go_wp2_with fail
    refine (done_any w8 H8.out HE8.out).mono ?_
    rintro e w9 ⟨rfl, hb9⟩
    rw [HD.out.2]
    have HB9 := Lib.hid (HB8.out.trans (hb9.mono HB8.out.size))
    have HE9 := Lib.hid (HE8.out.below hb9 HE8.out.lt)
    clear hb9
    go_wp2_with fail
    refine (alive9_any w9 HE9.out).mono ?_
    rintro e w10 ⟨rfl, hb10⟩
    have HB10 := Lib.hid (HB9.out.trans (hb10.mono HB9.out.size))
    clear hb10
    go_wp2_with fail
    go_ret
    exact ⟨rfl, HB10.out⟩
  · obtain rfl : k = 8 := by omega
    obtain ⟨n0, hn0⟩ : ∃ n0, n0 = n := ⟨_, rfl⟩
    obtain ⟨m0, hm0⟩ : ∃ m0, m0 = m := ⟨_, rfl⟩
    obtain ⟨k, hk2⟩ : ∃ k, k = 8 := ⟨_, rfl⟩
    rw [← hn0, ← hm0]
    have hk8 : 1 ≤ k ∧ k ≤ 8 := by omega
    rw [← hk2] at hmod hk1
    have HNB : Hid (beN (numB n0 k) = n0 ∧ beN (numB m0 k) = m0) := ⟨by rw [beN_numB, hk2]; exact Nat.mod_eq_of_lt (by omega), by rw [beN_numB, hk2]; exact Nat.mod_eq_of_lt (by omega)⟩
    have hd : decide ((k : Int) < 8) = false := decide_eq_false (by omega)
    obtain ⟨w2, hw2⟩ : ∃ w2, w2 = w := ⟨_, rfl⟩
    have HB2 : Hid (Below w.heap.size w w2) := by rw [hw2]; exact Below.refl _ _
    have HW2 := Lib.hid hw2.symm
    have hn64 : n0 < 18446744073709551616 := by omega
    have hm64 : m0 < 18446744073709551616 := by omega
    have HK2 := Lib.hid hk2
    have h8k : ¬ k < 8 := by omega
    have h8i : ¬ (k : Int) < 8 := by omega
    clear hw2 hk hk2 hn0 hm0 hn hm h8
    go_enter Tryd.func3, Tryd.ntmps3
    go_wp2_with fail
    rw [HW2.out]
    refine (number_any w2 n0 k (by omega) (by omega)).mono ?_
    rintro e w3 ⟨p3, c3, rfl, ho3, hb3⟩
    have HLA := Lib.hid (numB_len n0 k)
    have HLB := Lib.hid (numB_len m0 k)
    rw [HLA.out] at ho3 ⊢
    have HO3 := Lib.hid ho3
    have HB3 := Lib.hid (HB2.out.trans (hb3.mono HB2.out.size))
    have hs3 := hb3.size
    clear ho3 hb3
    go_wp2_with fail
    refine (number_any w3 m0 k (by omega) (by omega)).mono ?_
    rintro e w4 ⟨p4, c4, rfl, ho4, hb4⟩
    rw [HLB.out] at ho4 ⊢
    have HB4 := Lib.hid (HB3.out.trans (hb4.mono HB3.out.size))
    have HO3 := Lib.hid (own_touch HO3.out (Turns.of_below (S := fun _ => False) hb4) (fun _ _ h => h))
    obtain ⟨p4', c4', he4, HS4⟩ : ∃ p c, Value.slice p4 k c4 = .slice p k c ∧ Hid (Sl w4 p k c 1 (bytesV (numB m0 k))) := own_sl ho4
    obtain ⟨rfl, _, rfl⟩ := Value.slice.inj he4
    have hs4 := hb4.size
    clear ho4 hb4 he4
    go_wp2_with (at_builtin; refine wpList_append_nx rfl _ _ 25 rfl (base := w2.heap.size) Tryd.underlying25 info8 rfl (by omega) rfl HO3.out rfl HS4.out (bytesV_one _) ⟨by omega, by omega⟩ (by omega) ?_)
    intro p5 c5 w5 ho5 hg5 _ _
    have HB5 : Hid (Below w.heap.size w w5) := HB4.out.trans ((Below.refl _ _).grown hg5 HB4.out.size (fun i hi => by have h1 := (HO3.out.lt i hi).1; have h2 := HB2.out.size; omega))
    obtain ⟨p5', c5', he5, HS5⟩ : ∃ p c, Value.slice p5 (k + k) c5 = .slice p (k + k) c ∧ Hid (Bs w5 p (k + k) c (numB n0 k ++ numB m0 k)) := by
      rw [← bytesV_append] at ho5
      exact own_sl ho5
    obtain ⟨rfl, _, rfl⟩ := Value.slice.inj he5
    clear ho5 hg5 he5
    go_wp2_with fail
    refine (new_any w5 _ _ _ _ HS5.out (by omega)).mono ?_
    rintro e w6 ⟨rb, rfl, hr6, hb6⟩
    have HE5 := Lib.hid (hE.below HB5.out hE.lt)
    have HE6 := Lib.hid (HE5.out.below hb6 HE5.out.lt)
    have H6 := Lib.hid hr6
    have HB6 := Lib.hid (HB5.out.trans (hb6.mono HB5.out.size))
    have HG := Lib.hid HE5.out.lt
    clear hr6 hb6
    have hs5 := HB5.out.size
    obtain ⟨e1, e2⟩ := num_new (A := numB n0 k) (B := numB m0 k) hk8 HLA.out
    obtain ⟨f1, f2⟩ := num_next (A := numB n0 k) (B := numB m0 k) hk8 HLA.out HLB.out
    have HD : Hid (RD.err ⟨numB n0 k ++ numB m0 k, k + k, none⟩ = 0 ∧ RD.done ⟨numB n0 k ++ numB m0 k, k + k, none⟩ = 0) := by
      refine ⟨rfl, ?_⟩
      unfold RD.done
      rw [if_neg (by show ¬ (0 : Int) ≠ 0; simp), if_pos (by show List.length _ - (k + k) = 0; rw [List.length_append, HLA.out, HLB.out]; omega)]
    rw [HNB.out.1] at e1
    rw [HNB.out.2] at f1
    generalize numB n0 k ++ numB m0 k = AB at *
    have HE12 : Hid (_ ∧ _) := ⟨e1, e2⟩
    have HF12 : Hid (_ ∧ _) := ⟨f1, f2⟩
    clear e1 e2 f1 f2
    go_wp2_with fail
    refine (num_any w6 H6.out k (by omega)).mono ?_
    rintro e w7 ⟨rfl, hl7⟩
    rw [HE12.out.2] at hl7
    rw [HE12.out.1]
    have H7 := Lib.hid hl7.1
    have HB7 := Lib.hid (HB6.out.trans (hl7.belowB H6.out hs5))
    have HE7 := Lib.hid (HE6.out.left H6.out hl7 HG.out)
    clear hl7
    go_wp2_with fail
    refine (num_any w7 H7.out k (by omega)).mono ?_
    rintro e w8 ⟨rfl, hl8⟩
    rw [HF12.out.2] at hl8
    rw [HF12.out.1]
    have H8 := Lib.hid hl8.1
    have HB8 := Lib.hid (HB7.out.trans (hl8.belowB H7.out hs5))
    have HE8 := Lib.hid (HE7.out.left H7.out hl8 HG.out)
    clear hl8
    go_wp2_with fail
    refine (done_any w8 H8.out HE8.out).mono ?_
    rintro e w9 ⟨rfl, hb9⟩
    rw [HD.out.2]
    have HB9 := Lib.hid (HB8.out.trans (hb9.mono HB8.out.size))
    have HE9 := Lib.hid (HE8.out.below hb9 HE8.out.lt)
    clear hb9
    go_wp2_with fail
    refine (alive9_any w9 HE9.out).mono ?_
    rintro e w10 ⟨rfl, hb10⟩
    have HB10 := Lib.hid (HB9.out.trans (hb10.mono HB9.out.size))
    clear hb10
    go_wp2_with fail
    go_ret
    exact ⟨rfl, HB10.out⟩
end Go.Proofs.YtbfddfmglkhimaaDoor.Rdr
