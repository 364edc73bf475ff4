/- FRAMES, plain: there and back, torn, turned, one behind the other. Conditions: none. -/
import Derived.Test.YtjbjlmdfgpoadaaDoorFrm11
import Derived.Test.YtjbjlmdfgpoadaaDoorCrcTurned
namespace Go.Proofs.YtjbjlmdfgpoadaaDoor.Frm
open Go.RowKit Go.Mir Go.Mir.Parts Wr Cod Cut Rdr

theorem frame_length (l : List UInt8) : (frame l).length = 8 + l.length := by unfold frame; simp only [List.length_append, be_length]
theorem frame_four (l : List UInt8) (r : List UInt8) : (frame l ++ r).take 4 = be l.length 4 := by
  unfold frame
  rw [List.append_assoc, List.append_assoc, List.take_append_of_le_length (by rw [be_length]; omega), List.take_of_length_le (by rw [be_length]; omega)]
theorem frame_body (l r : List UInt8) : ((frame l ++ r).drop 8).take l.length = l := by
  unfold frame
  rw [List.append_assoc, List.drop_append_of_le_length (by simp [be_length]), List.drop_of_length_le (by simp [be_length]), List.nil_append, List.take_append_of_le_length (by omega), List.take_of_length_le (by omega)]
theorem frame_take (l r : List UInt8) : (frame l ++ r).take (8 + l.length) = frame l := by
  rw [← frame_length, List.take_append_of_le_length (Nat.le_refl _), List.take_of_length_le (Nat.le_refl _)]
/-- there and back, whatever is behind -/
theorem one_frame (l r : List UInt8) (h1 : 1 ≤ l.length) (h2 : l.length ≤ 65536) : one (frame l ++ r) = (l, 8 + l.length, 0) := by
  have hv : beN ((frame l ++ r).take 4) = l.length := by rw [frame_four, beN_be _ _ (by omega) (by omega)]
  have hl : (frame l ++ r).length = 8 + l.length + r.length := by rw [List.length_append, frame_length]
  unfold one
  rw [hv, if_neg (by omega), if_neg (by omega), if_neg (by omega), frame_body, frame_take, if_pos rfl]
theorem one_frame0 (l : List UInt8) (h1 : 1 ≤ l.length) (h2 : l.length ≤ 65536) : one (frame l) = (l, 8 + l.length, 0) := by
  have := one_frame l [] h1 h2
  rwa [List.append_nil] at this
/-- torn -/
theorem one_torn (l : List UInt8) (h1 : 1 ≤ l.length) (h2 : l.length ≤ 65536) (k : Nat) (hk : k < 8 + l.length) : one ((frame l).take k) = ([], 0, 2) := by
  have hl : ((frame l).take k).length = k := by rw [List.length_take, frame_length]; omega
  unfold one
  by_cases h4 : k < 4
  · rw [if_pos (by omega)]
  · have hv : beN (((frame l).take k).take 4) = l.length := by
      rw [List.take_take, Nat.min_eq_left (by omega)]
      have := frame_four l []
      rw [List.append_nil] at this
      rw [this, beN_be _ _ (by omega) (by omega)]
    rw [hv, if_neg (by omega), if_neg (by omega), if_pos (by omega)]
/-- bytes of which one is another have another sum -/
theorem more_byte (s : BitVec 32) (a : List UInt8) (x y : UInt8) (b : List UInt8) (h : Crc.more s (a ++ x :: b) = Crc.more s (a ++ y :: b)) : x = y := by
  unfold Crc.more at h
  have h1 : Crc.run (s ^^^ Crc.ones) (a ++ x :: b) = Crc.run (s ^^^ Crc.ones) (a ++ y :: b) := by
    have := congrArg (· ^^^ Crc.ones) h
    simpa [Crc.xx] using this
  rw [Crc.run_append, Crc.run_append] at h1
  generalize Crc.run (s ^^^ Crc.ones) a = r at h1
  have e : ∀ z, Crc.run r (z :: b) = Crc.run (Crc.iter Crc.step 8 (r ^^^ Crc.byteW z)) b := fun z => rfl
  rw [e, e, Crc.iter_xor, Crc.iter_xor, Crc.run_xor, Crc.run_xor] at h1
  have h2 : Crc.iter Crc.step (8 * b.length) (Crc.iter Crc.step 8 (Crc.byteW x)) = Crc.iter Crc.step (8 * b.length) (Crc.iter Crc.step 8 (Crc.byteW y)) := by
    have := congrArg (Crc.run (Crc.iter Crc.step 8 r) b ^^^ ·) h1
    simpa [← BitVec.xor_assoc] using this
  rw [← Crc.iter_add, ← Crc.iter_add] at h2
  have h3 : Crc.iter Crc.step (8 * b.length + 8) (Crc.byteW x ^^^ Crc.byteW y) = 0#32 := by rw [Crc.iter_xor, h2]; simp
  have h4 := Crc.xor_eq_zero (Crc.iter_ne _ _ h3)
  have h5 := congrArg BitVec.toNat h4
  rw [Crc.byteW_toNat, Crc.byteW_toNat] at h5
  exact UInt8.toNat_inj.1 h5
theorem set_split (l : List UInt8) (j : Nat) (hj : j < l.length) (y : UInt8) : l.set j y = l.take j ++ y :: l.drop (j + 1) := List.set_eq_take_append_cons_drop .. |>.trans (by rw [if_pos hj])
/-- turned, behind the length -/
theorem one_odd (l : List UInt8) (h1 : 1 ≤ l.length) (h2 : l.length ≤ 65536) (j : Nat) (h4 : 4 ≤ j) (hj : j < 8 + l.length) (y : UInt8) (hy : ¬ (frame l)[j]'(by rw [frame_length]; exact hj) = y) : one ((frame l).set j y) = ([], 0, 9) := by
  have hfl := frame_length l
  have hl : ((frame l).set j y).length = 8 + l.length := by rw [List.length_set, hfl]
  have ht4 : ((frame l).set j y).take 4 = be l.length 4 := by
    rw [List.take_set_of_le (by omega)]
    have := frame_four l []
    rwa [List.append_nil] at this
  have hv : beN (((frame l).set j y).take 4) = l.length := by rw [ht4, beN_be _ _ (by omega) (by omega)]
  unfold one
  rw [hv, if_neg (by omega), if_neg (by omega), if_neg (by omega), if_neg]
  intro he
  rw [List.take_of_length_le (by omega : ((frame l).set j y).length ≤ 8 + l.length)] at he
  have hbl : (((frame l).set j y).drop 8).length = l.length := by rw [List.length_drop, hl]; omega
  rw [List.take_of_length_le (by omega)] at he
  have hd : (frame l).drop 8 = l := by
    have := frame_body l []
    rw [List.append_nil] at this
    rwa [List.take_of_length_le (by rw [List.length_drop, hfl]; omega)] at this
  by_cases h8 : j < 8
  · have hd2 : ((frame l).set j y).drop 8 = l := by rw [List.drop_set_of_lt (by omega), hd]
    rw [hd2] at he
    have := congrArg (·[j]?) he
    simp only [List.getElem?_set, hfl] at this
    rw [if_pos trivial, if_pos hj, List.getElem?_eq_getElem (by omega)] at this
    exact hy (Option.some.inj this)
  · have hd2 : ((frame l).set j y).drop 8 = l.set (j - 8) y := by rw [List.drop_set, if_neg (by omega), hd]
    rw [hd2] at he
    have hjl : j - 8 < l.length := by omega
    -- the sum that stands in both
    have hs : ((frame l).set j y).drop 4 = ((frame l).drop 4).set (j - 4) y := by rw [List.drop_set, if_neg (by omega)]
    have e4 : (frame (l.set (j - 8) y)).drop 4 = ((frame l).drop 4).set (j - 4) y := by rw [he, hs]
    have c1 : ∀ m : List UInt8, (frame m).drop 4 = be (Crc.more 0#32 ([be m.length 4, m].flatten)).toNat 4 ++ m := fun m => by
      unfold frame
      rw [List.append_assoc, List.drop_append_of_le_length (by rw [be_length]; omega), List.drop_of_length_le (by rw [be_length]; omega), List.nil_append]
    rw [c1, c1] at e4
    have e5 := congrArg (List.take 4) e4
    rw [List.take_set_of_le (by omega), List.take_append_of_le_length (by rw [be_length]; omega), List.take_append_of_le_length (by rw [be_length]; omega), List.take_of_length_le (by rw [be_length]; omega), List.take_of_length_le (by rw [be_length]; omega)] at e5
    have b1 := (Crc.more 0#32 ([be (l.set (j - 8) y).length 4, l.set (j - 8) y].flatten)).isLt
    have b2 := (Crc.more 0#32 ([be l.length 4, l].flatten)).isLt
    have e6 := congrArg beN e5
    rw [beN_be _ _ (by omega) (by omega), beN_be _ _ (by omega) (by omega)] at e6
    have e7 := BitVec.eq_of_toNat_eq e6
    simp only [List.flatten_cons, List.flatten_nil, List.append_nil, List.length_set] at e7
    rw [set_split l _ hjl, ← List.append_assoc] at e7
    have hl2 : l = l.take (j - 8) ++ l[j - 8] :: l.drop (j - 8 + 1) := by
      rw [List.getElem_cons_drop, List.take_append_drop]
    rw [show be l.length 4 ++ l = (be l.length 4 ++ l.take (j - 8)) ++ l[j - 8] :: l.drop (j - 8 + 1) by rw [List.append_assoc, ← hl2]] at e7
    have e8 := more_byte _ _ _ _ _ e7
    apply hy
    rw [e8]
    have : (frame l)[j]? = l[j - 8]? := by
      have := congrArg (·[j - 8]?) hd
      simp only [List.getElem?_drop] at this
      rwa [show 8 + (j - 8) = j by omega] at this
    rw [List.getElem?_eq_getElem (by omega), List.getElem?_eq_getElem hjl] at this
    exact Option.some.inj this
/-- one behind the other, and something that is none -/
theorem scan_frames (t : List UInt8) (ht : ¬ (one t).2.2 = 0) : ∀ (ls : List (List UInt8)), (∀ x ∈ ls, 1 ≤ x.length ∧ x.length ≤ 65536) → scan (ls.flatMap frame ++ t) = (ls, (ls.flatMap frame).length)
  | [], _ => by rw [List.flatMap_nil, List.nil_append, scan_no ht]; rfl
  | x :: r, h => by
    have hx := h x (by simp)
    have ih := scan_frames t ht r (fun y hy => h y (by simp [hy]))
    have ho := one_frame x (r.flatMap frame ++ t) hx.1 hx.2
    rw [← List.append_assoc] at ho
    rw [List.flatMap_cons, scan_ok (by rw [ho]), ho]
    dsimp only
    have hd : ((frame x ++ r.flatMap frame ++ t)).drop (8 + x.length) = r.flatMap frame ++ t := by
      rw [List.append_assoc, ← frame_length, List.drop_append_of_le_length (Nat.le_refl _), List.drop_of_length_le (Nat.le_refl _), List.nil_append]
    rw [hd, ih, List.length_append, frame_length]
theorem flipped_ne (y : UInt8) (r : Nat) (hr : r < 8) : ¬ y = CrcW.flipped y r := fun h => by
  have h1 := congrArg UInt8.toNat h
  rw [CrcW.flipped_toNat y r hr] at h1
  have h2 : y.toNat ^^^ (y.toNat ^^^ 2 ^ r) = 0 := by rw [← h1]; simp
  rw [← Nat.xor_assoc, Nat.xor_self, Nat.zero_xor] at h2
  have := Nat.pow_pos (n := r) (show 0 < 2 by omega)
  omega
theorem one_zero : one (List.replicate 20 0) = ([], 0, 4) := by
  unfold one
  rw [if_neg (by decide), if_pos (by decide)]
end Go.Proofs.YtjbjlmdfgpoadaaDoor.Frm
