/- CODECS, plain: what a reader's calls come to, where there is room and where not. Conditions: none. -/
import Derived.Test.YtdaigkcbmdcbcaaDoorCodec
import Derived.Test.YtdaigkcbmdcbcaaDoorRdr6
namespace Go.Proofs.YtdaigkcbmdcbcaaDoor.Cod
open Go.Mir Wr Rdr

theorem num_fit {l : List UInt8} {pos k : Nat} (h1 : 1 ≤ k) (h8 : k ≤ 8) (h : pos + k ≤ l.length) : RD.numV ⟨l, pos, none⟩ (k : Int) = beN ((l.drop pos).take k) ∧ RD.numS ⟨l, pos, none⟩ (k : Int) = ⟨l, pos + k, none⟩ := by
  obtain ⟨a, b⟩ := take_in h
  have hf : fitsW (k : Int) = true := by unfold fitsW; rw [decide_eq_true (by omega), decide_eq_true (by omega)]; rfl
  unfold RD.numV RD.numS
  rw [hf, a, b]
  exact ⟨rfl, rfl⟩
theorem take_short {l : List UInt8} {pos k : Nat} (h : l.length < pos + k) : RD.takeB ⟨l, pos, none⟩ (k : Int) true = [] ∧ RD.takeS ⟨l, pos, none⟩ (k : Int) true = ⟨l, pos, some 2⟩ := by
  constructor
  · unfold RD.takeB
    rw [if_neg]
    rintro ⟨_, _, _, h'⟩
    dsimp only at h'
    omega
  · unfold RD.takeS
    rw [if_neg (by simp), if_neg (by rintro (h' | h'); (· cases h'); (· omega)), if_pos (by dsimp only; omega)]
theorem take_bad {l : List UInt8} {pos : Nat} {e : Int} (n : Int) (f : Bool) : RD.takeB ⟨l, pos, some e⟩ n f = [] ∧ RD.takeS ⟨l, pos, some e⟩ n f = ⟨l, pos, some e⟩ := by
  constructor
  · unfold RD.takeB; rw [if_neg (by simp)]
  · unfold RD.takeS; rw [if_pos (by simp)]
theorem num_short {l : List UInt8} {pos k : Nat} (h1 : 1 ≤ k) (h8 : k ≤ 8) (h : l.length < pos + k) : RD.numV ⟨l, pos, none⟩ (k : Int) = 0 ∧ RD.numS ⟨l, pos, none⟩ (k : Int) = ⟨l, pos, some 2⟩ := by
  obtain ⟨a, b⟩ := take_short h
  have hf : fitsW (k : Int) = true := by unfold fitsW; rw [decide_eq_true (by omega), decide_eq_true (by omega)]; rfl
  unfold RD.numV RD.numS
  rw [hf, a, b]
  exact ⟨rfl, rfl⟩
theorem num_bad {l : List UInt8} {pos : Nat} {e : Int} (k : Int) : RD.numV ⟨l, pos, some e⟩ k = 0 ∧ RD.numS ⟨l, pos, some e⟩ k = ⟨l, pos, some e⟩ := by
  unfold RD.numV RD.numS
  rw [(take_bad k _).1, (take_bad k _).2]
  exact ⟨rfl, rfl⟩
theorem cnt_bad {l : List UInt8} {pos : Nat} {e : Int} (k m : Int) (hm : 0 ≤ m) : RD.cntV ⟨l, pos, some e⟩ k m = 0 ∧ RD.cntS ⟨l, pos, some e⟩ k m = ⟨l, pos, some e⟩ := by
  have hS : RD.cntS ⟨l, pos, some e⟩ k m = ⟨l, pos, some e⟩ := by
    unfold RD.cntS
    rw [(num_bad k).1, (num_bad k).2, if_neg (by omega)]
  refine ⟨?_, hS⟩
  unfold RD.cntV
  rw [hS, if_neg (by simp)]
theorem cnt_short {l : List UInt8} {pos k : Nat} (m : Int) (hm : 0 ≤ m) (h1 : 1 ≤ k) (h8 : k ≤ 8) (h : l.length < pos + k) : RD.cntV ⟨l, pos, none⟩ (k : Int) m = 0 ∧ RD.cntS ⟨l, pos, none⟩ (k : Int) m = ⟨l, pos, some 2⟩ := by
  obtain ⟨a, b⟩ := num_short h1 h8 h
  have hS : RD.cntS ⟨l, pos, none⟩ (k : Int) m = ⟨l, pos, some 2⟩ := by
    unfold RD.cntS
    rw [a, b, if_neg (by omega)]
  refine ⟨?_, hS⟩
  unfold RD.cntV
  rw [hS, if_neg (by simp)]
theorem cnt_over {l : List UInt8} {pos k m : Nat} (h1 : 1 ≤ k) (h8 : k ≤ 8) (h : pos + k ≤ l.length) (hm : m < beN ((l.drop pos).take k)) : RD.cntV ⟨l, pos, none⟩ (k : Int) (m : Int) = 0 ∧ RD.cntS ⟨l, pos, none⟩ (k : Int) (m : Int) = ⟨l, pos + k, some 4⟩ := by
  obtain ⟨a, b⟩ := num_fit h1 h8 h
  have hS : RD.cntS ⟨l, pos, none⟩ (k : Int) (m : Int) = ⟨l, pos + k, some 4⟩ := by
    unfold RD.cntS
    rw [a, b, if_pos (by omega)]
    unfold RD.fail
    rw [if_pos ⟨rfl, by decide⟩]
  refine ⟨?_, hS⟩
  unfold RD.cntV
  rw [hS, if_neg (by simp)]
theorem cnt_fit {l : List UInt8} {pos k m : Nat} (h1 : 1 ≤ k) (h8 : k ≤ 8) (h : pos + k ≤ l.length) (hm : beN ((l.drop pos).take k) ≤ m) : RD.cntV ⟨l, pos, none⟩ (k : Int) (m : Int) = beN ((l.drop pos).take k) ∧ RD.cntS ⟨l, pos, none⟩ (k : Int) (m : Int) = ⟨l, pos + k, none⟩ := by
  obtain ⟨a, b⟩ := num_fit h1 h8 h
  have hS : RD.cntS ⟨l, pos, none⟩ (k : Int) (m : Int) = ⟨l, pos + k, none⟩ := by
    unfold RD.cntS
    rw [a, b, if_neg (by omega)]
  refine ⟨?_, hS⟩
  unfold RD.cntV
  rw [hS, if_pos rfl, a]
theorem done_bad {l : List UInt8} {pos : Nat} {e : Int} (he : e ≠ 0) : RD.done ⟨l, pos, some e⟩ = e := by
  unfold RD.done
  rw [if_pos (by show (e : Int) ≠ 0; exact he)]
  rfl
theorem done_all {l : List UInt8} {pos : Nat} (h : l.length ≤ pos) : RD.done ⟨l, pos, none⟩ = 0 := by
  unfold RD.done
  rw [if_neg (by show ¬ (0 : Int) ≠ 0; simp), if_pos (by dsimp only; omega)]
theorem done_left {l : List UInt8} {pos : Nat} (h : pos < l.length) : RD.done ⟨l, pos, none⟩ = 3 := by
  unfold RD.done
  rw [if_neg (by show ¬ (0 : Int) ≠ 0; simp), if_neg (by dsimp only; omega)]
theorem id_fit {l : List UInt8} {pos : Nat} (n : Nat) (h : pos + n ≤ l.length) : RD.idV ⟨l, pos, none⟩ n = (l.drop pos).take n ∧ RD.takeS ⟨l, pos, none⟩ (n : Int) true = ⟨l, pos + n, none⟩ := by
  obtain ⟨a, b⟩ := take_in h
  refine ⟨?_, b⟩
  unfold RD.idV
  rw [a]
  have : ((l.drop pos).take n).length = n := by rw [List.length_take, List.length_drop]; omega
  rw [this]
  simp
theorem idV_len (s : RD) (n : Nat) : (s.idV n).length = n := by
  unfold RD.idV
  have h := takeB_len s (n : Int) true
  rw [if_pos (by omega)] at h
  rw [List.length_append, List.length_replicate]
  omega
theorem numV_pow (s : RD) (k : Nat) (hk : k ≤ 8) : s.numV (k : Int) < 256 ^ k := by
  unfold RD.numV
  have h1 := beN_lt_pow (s.takeB (k : Int) (fitsW (k : Int)))
  have h2 := takeB_len s (k : Int) (fitsW (k : Int))
  rw [if_pos (by omega)] at h2
  have h3 : 256 ^ (s.takeB (k : Int) (fitsW (k : Int))).length ≤ 256 ^ k := Nat.pow_le_pow_right (by omega) (by omega)
  omega
theorem drop_mid {a b c : List UInt8} (k : Nat) (h : a.length = k) : ((a ++ (b ++ c)).drop k).take b.length = b := by
  rw [← h, List.drop_left, List.take_left]
theorem mid_take (b : List UInt8) (n i j : Nat) (h : i + j ≤ n) : ((b.take n).drop i).take j = (b.drop i).take j := by
  rw [List.drop_take, List.take_take]
  congr 1
  omega
theorem mid_app (b c : List UInt8) (i j : Nat) (h : i + j ≤ b.length) : ((b ++ c).drop i).take j = (b.drop i).take j := by
  rw [List.drop_append_of_le_length (by omega), List.take_append_of_le_length (by rw [List.length_drop]; omega)]
theorem cut2 (l : List UInt8) (i k : Nat) : (l.drop i).take k ++ l.drop (i + k) = l.drop i := by
  rw [← List.drop_drop, List.take_append_drop]
theorem be_one (n : Nat) : be n 1 = [UInt8.ofNat n] := by
  rw [be_numB _ _ (by omega)]
  simp [Rdr.numB]
theorem beN_one (x : UInt8) : beN [x] = x.toNat := by simp [beN]
theorem beN_take {l : List UInt8} {i k : Nat} (h : i + k ≤ l.length) : Rdr.beN ((l.drop i).take k) < 256 ^ k := by
  have := Rdr.beN_lt_pow ((l.drop i).take k)
  rwa [List.length_take, List.length_drop, Nat.min_eq_left (by omega)] at this
theorem be_take {l : List UInt8} {i k : Nat} (h : i + k ≤ l.length) (hk : k ≤ 8) : be (Rdr.beN ((l.drop i).take k)) k = (l.drop i).take k := be_beN _ _ (by rw [List.length_take, List.length_drop]; omega) hk
end Go.Proofs.YtdaigkcbmdcbcaaDoor.Cod
