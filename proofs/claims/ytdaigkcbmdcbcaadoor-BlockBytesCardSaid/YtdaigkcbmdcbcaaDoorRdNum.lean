/- LAYER 9: the document's example; numbers. Conditions: the laid cell of errors.errorType. -/
import Derived.Test.YtdaigkcbmdcbcaaDoorRdr6
namespace Go.Proofs.YtdaigkcbmdcbcaaDoor.Rdr
open Go.RowKit Go.Mir Go.Mir.Parts

theorem EType.left {w w' : World} {base rb : Nat} {s s' : RD} (h : EType w) (hr : RAt w base rb s) (hl : LeftR base rb s' w w') (hb : 0 < base) : EType w' :=
  h.below (hl.belowB hr (Nat.le_refl _)) hb
/-! ### the bytes of a number -/
def numB (n : Nat) : Nat → List UInt8
  | 0 => []
  | k + 1 => UInt8.ofNat (n / 256 ^ k) :: numB n k
theorem numB_len (n k : Nat) : (numB n k).length = k := by induction k with
  | zero => rfl
  | succ k ih => simp [numB, ih]
theorem beN_fold (l : List UInt8) : ∀ a, l.foldl (fun a b => 256 * a + b.toNat) a = a * 256 ^ l.length + beN l := by
  induction l with
  | nil => intro a; simp [beN]
  | cons b l ih =>
    intro a
    show List.foldl _ (256 * a + b.toNat) l = _
    have h2 : beN (b :: l) = List.foldl (fun a b => 256 * a + b.toNat) (256 * 0 + b.toNat) l := rfl
    rw [h2, ih, ih, List.length_cons, Nat.pow_succ, Nat.add_mul, Nat.mul_zero, Nat.zero_add, Nat.mul_comm 256 a, Nat.mul_assoc, Nat.mul_comm 256 (256 ^ l.length), Nat.add_assoc]
theorem beN_numB (n k : Nat) : beN (numB n k) = n % 256 ^ k := by
  induction k with
  | zero => simp [numB, beN, Nat.mod_one]
  | succ k ih =>
    show List.foldl _ (256 * 0 + (UInt8.ofNat (n / 256 ^ k)).toNat) (numB n k) = _
    rw [beN_fold, numB_len, ih, Nat.mul_zero, Nat.zero_add, UInt8.toNat_ofNat']
    rw [show (2 : Nat) ^ 8 = 256 from rfl, Nat.pow_succ, Nat.mod_mul, Nat.mul_comm (n / 256 ^ k % 256), Nat.add_comm]
theorem numB_drop (n : Nat) : ∀ k j, j ≤ k → (numB n k).drop j = numB n (k - j) := by
  intro k
  induction k with
  | zero => intro j hj; simp [numB]
  | succ k ih =>
    intro j hj
    cases j with
    | zero => rfl
    | succ j => rw [show k + 1 - (j + 1) = k - j by omega, ← ih j (by omega)]; rfl
theorem numB_at (n k j : Nat) (h : j < k) : (numB n k)[j]? = some (UInt8.ofNat (n / 256 ^ (k - 1 - j))) := by
  have h1 := numB_drop n k j (by omega)
  have h2 : ((numB n k).drop j)[0]? = (numB n k)[j]? := by rw [List.getElem?_drop, Nat.add_zero]
  rw [← h2, h1, show k - j = (k - 1 - j) + 1 by omega]
  rfl
def NumBP (l : List UInt8) (w : World) (e : Ending) (w' : World) : Prop := ∃ p c, e = .returned (.slice p l.length c) ∧ w'.ownsRow w.heap.size 5 1 (.slice p l.length c) l.length (bytesV l) ∧ Below w.heap.size w w'
set_option maxRecDepth 100000 in
theorem number_any (w : World) (n k : Nat) (hn : n < 18446744073709551616) (hk : k ≤ 8) :
    Calls Tryd.prog 60 #[.int .u64 (n : Int), .int .i64 (k : Int)] w (NumBP (numB n k) w) := by
  have HLN := Lib.hid (numB_len n k)
  have hw1 : IntKind.i64.wrap ((k : Int) - 1) = (k : Int) - 1 := IntWalk.i64_in _ (by omega)
  go_enter Tryd.func60, Tryd.ntmps60
  go_wp2_with fail
  go_loopw [5, 6] (fun v i wr => ∃ (j : Nat) (p : Option Addr) (c : Nat), j ≤ k ∧ v = .slice p j c ∧ i = .int .i64 ((k : Int) - 1 - (j : Int)) ∧ wr.ownsRow w.heap.size 5 1 (.slice p j c) j (bytesV ((numB n k).take j)) ∧ Below w.heap.size w wr) (fun v _ _ => match v with | .slice _ j _ => k - j | _ => 0)
  case atStart => exact ⟨0, none, 0, by omega, rfl, by simp, ⟨rfl, .inl ⟨rfl, rfl⟩⟩, Below.refl _ _⟩
  case round =>
    obtain ⟨j, p, c, hj, rfl, rfl, hown, hbw⟩ := hrel
    have HOW := Lib.hid hown
    have HBW := Lib.hid hbw
    clear hown hbw
    by_cases hlt : j < k
    · have hd : decide ((0 : Int) ≤ (k : Int) - 1 - (j : Int)) = true := decide_eq_true (by omega)
      obtain ⟨i, hi⟩ : ∃ i : Nat, (i : Int) = (k : Int) - 1 - (j : Int) := ⟨k - 1 - j, by omega⟩
      rw [← hi] at hd ⊢
      have hi7 : i ≤ 7 := by omega
      have HTK := Lib.hid (numB_at n k j hlt)
      have HYV : Hid (((n : Int) / 2 ^ (8 * (k - 1 - j)) % 256) = ((UInt8.ofNat (n / 256 ^ (k - 1 - j))).toNat : Int)) := by
        show _ = _
        rw [UInt8.toNat_ofNat', show (2 : Nat) ^ 8 = 256 from rfl, show (256 : Nat) = 2 ^ 8 from rfl, ← Nat.pow_mul]
        simp
      have HTS : Hid ((numB n k).take (j + 1) = (numB n k).take j ++ [UInt8.ofNat (n / 256 ^ (k - 1 - j))]) := by
        have := take_snoc (numB n k) j (by rw [HLN.out]; exact hlt)
        rw [List.getElem?_eq_getElem (by rw [HLN.out]; exact hlt)] at HTK
        show _ = _
        rw [this, Option.some.inj HTK.out]
      generalize UInt8.ofNat (n / 256 ^ (k - 1 - j)) = y at *
      have HSL : Hid (Bs (wr.alloc (.cells #[.int .u8 ((n : Int) / 2 ^ (8 * (k - 1 - j)) % 256)] 5)) (some ⟨wr.heap.size, 0, none⟩) 1 1 [y]) := Bs.made wr [y] _ _ (0, 0) 1 (by rw [HYV.out]; rfl) rfl (by omega)
      have HO5 : Hid ((wr.alloc (.cells #[.int .u8 ((n : Int) / 2 ^ (8 * (k - 1 - j)) % 256)] 5)).ownsRow w.heap.size 5 1 (.slice p j c) j (bytesV ((numB n k).take j))) := HOW.out.alloc _
      have HSZ : Hid (w.heap.size ≤ (wr.alloc (.cells #[.int .u8 ((n : Int) / 2 ^ (8 * (k - 1 - j)) % 256)] 5)).heap.size) := by have := HBW.out.size; show _ ≤ _; simp; omega
      go_wp2_with (at_builtin; refine wpList_append_nx rfl _ _ 29 rfl (base := w.heap.size) Tryd.underlying29 info8 rfl (by omega) rfl HO5.out rfl HSL.out (bytesV_one _) (by omega) HSZ.out ?_)
      intro p' c' w5 hown hg hnx hne
      have HO6 := Lib.hid hown
      have hb5 : Below w.heap.size w w5 := (HBW.out.alloc HBW.out.size _).grown hg HSZ.out (fun i hi => (HO5.out.lt i hi).1)
      have HB5 := Lib.hid hb5
      have hwi : IntKind.i64.wrap ((i : Int) - 1) = (i : Int) - 1 := IntWalk.i64_in _ (by omega)
      clear hown hg hnx hne hb5
      go_wp2_with fail
      go_roundw
      case rel => exact ⟨j + 1, p', c', by omega, rfl, by congr 1; omega, by have := HO6.out; rw [HTS.out, bytesV_append]; exact this, HB5.out⟩
      case measure => simp; omega
    · obtain rfl : j = k := by omega
      have hd : decide ((0 : Int) ≤ (j : Int) - 1 - (j : Int)) = false := decide_eq_false (by omega)
      have hfull : (numB n j).take j = numB n j := List.take_of_length_le (by rw [HLN.out]; omega)
      rw [hfull] at HOW
      have HF : Hid (NumBP (numB n j) w (.returned (.slice p j c)) wr) := ⟨p, c, by rw [HLN.out], by rw [HLN.out]; exact HOW.out, HBW.out⟩
      go_wp2_with fail
      go_ret
      exact HF.out

theorem fits_k {k : Nat} (h : 1 ≤ k ∧ k ≤ 8) : fitsW (k : Int) = true := by unfold fitsW; simp; omega
theorem num_new {A B : List UInt8} {k : Nat} (hk : 1 ≤ k ∧ k ≤ 8) (hA : A.length = k) : RD.numV (RD.new (A ++ B)) (k : Int) = beN A ∧ RD.numS (RD.new (A ++ B)) (k : Int) = ⟨A ++ B, k, none⟩ := by
  have hf := fits_k hk
  constructor
  · unfold RD.numV RD.takeB RD.new
    rw [hf, if_pos ⟨rfl, rfl, by omega, by simp; omega⟩]
    rw [show ((k : Int)).toNat = A.length by omega, List.drop_zero, List.take_left]
  · unfold RD.numS RD.takeS RD.new
    rw [hf, if_neg (by simp), if_neg (by rintro (h | h); (· cases h); (· omega)), if_neg (by simp; omega)]
    simp
theorem num_next {A B : List UInt8} {k : Nat} (hk : 1 ≤ k ∧ k ≤ 8) (hA : A.length = k) (hB : B.length = k) : RD.numV ⟨A ++ B, k, none⟩ (k : Int) = beN B ∧ RD.numS ⟨A ++ B, k, none⟩ (k : Int) = ⟨A ++ B, k + k, none⟩ := by
  have hf := fits_k hk
  constructor
  · unfold RD.numV RD.takeB
    rw [hf, if_pos ⟨rfl, rfl, by omega, by simp; omega⟩]
    rw [show ((k : Int)).toNat = B.length by omega]
    dsimp only
    rw [← hA, List.drop_left, List.take_length]
  · unfold RD.numS RD.takeS
    rw [hf, if_neg (by simp), if_neg (by rintro (h | h); (· cases h); (· omega)), if_neg (by simp; omega)]
    simp
end Go.Proofs.YtdaigkcbmdcbcaaDoor.Rdr
