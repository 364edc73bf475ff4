/- MESSAGES, plain: which may be, their bytes, and what is read. Conditions: none. -/
import Derived.Test.YtmjdpfmofbbknaaDoorCodec
namespace Go.Proofs.YtmjdpfmofbbknaaDoor.Msg
open Go.Mir Wr Cod

structure MsgD where
  kind : Int
  ses : Nat
  seq : Nat
  quo : Nat
  hint : List UInt8
  blob : List UInt8
deriving DecidableEq
def z16 : List UInt8 := List.replicate 16 0
def MsgD.zero : MsgD := ⟨0, 0, 0, 0, z16, []⟩
/-- what every message that came in meets -/
structure MsgD.wf (m : MsgD) : Prop where
  kindB : -9223372036854775808 ≤ m.kind ∧ m.kind ≤ 9223372036854775807
  ses : m.ses < 4294967296
  seq : m.seq < 4294967296
  quo : m.quo < 4294967296
  hint : m.hint.length = 16
def MsgD.right (m : MsgD) : Prop :=
  (m.kind = 1 ∧ m.ses = 0 ∧ m.seq = 0 ∧ m.hint = z16 ∧ m.blob = [] ∧ m.quo < 65536) ∨ (m.kind = 2 ∧ m.quo = 0 ∧ m.blob.length ≤ 1000) ∨ ((m.kind = 3 ∨ m.kind = 4) ∧ m.seq = 0 ∧ m.quo = 0 ∧ m.hint = z16 ∧ m.blob = [])
instance (m : MsgD) : Decidable m.right := by unfold MsgD.right; infer_instance
def MsgD.bytes (m : MsgD) : List UInt8 :=
  be m.kind.toNat 1 ++ (if m.kind = 1 then be m.quo 2 else be m.ses 4 ++ (if m.kind = 2 then be m.seq 4 ++ (m.hint ++ (be m.blob.length 2 ++ m.blob)) else []))
def MsgD.enc (m : MsgD) : List UInt8 × Int := if m.right then (m.bytes, 0) else ([], 1)
theorem bytes_len (m : MsgD) (hw : m.wf) (h : m.right) : m.bytes.length = (if m.kind = 1 then 3 else if m.kind = 2 then 27 + m.blob.length else 5) := by
  unfold MsgD.bytes
  simp only [List.length_append, be_length]
  split
  · simp [be_length]
  · split
    · simp only [List.length_append, be_length, hw.hint]; omega
    · simp [be_length]
/-- what is read -/
def decM (b : List UInt8) : MsgD × Int :=
  match b with
  | [] => (.zero, 2)
  | k :: _ =>
    if k.toNat = 1 then (if b.length < 3 then (.zero, 2) else if 3 < b.length then (.zero, 3) else (⟨1, 0, 0, Rdr.beN ((b.drop 1).take 2), z16, []⟩, 0))
    else if k.toNat = 2 then
      (if b.length < 27 then (.zero, 2) else if 1000 < Rdr.beN ((b.drop 25).take 2) then (.zero, 4) else if b.length < 27 + Rdr.beN ((b.drop 25).take 2) then (.zero, 2) else if 27 + Rdr.beN ((b.drop 25).take 2) < b.length then (.zero, 3)
      else (⟨2, Rdr.beN ((b.drop 1).take 4), Rdr.beN ((b.drop 5).take 4), 0, (b.drop 9).take 16, (b.drop 27).take (Rdr.beN ((b.drop 25).take 2))⟩, 0))
    else if k.toNat = 3 ∨ k.toNat = 4 then (if b.length < 5 then (.zero, 2) else if 5 < b.length then (.zero, 3) else (⟨(k.toNat : Int), Rdr.beN ((b.drop 1).take 4), 0, 0, z16, []⟩, 0))
    else (.zero, 4)
theorem be1 (n : Nat) : be n 1 = [UInt8.ofNat n] := by
  rw [be_numB _ _ (by omega)]
  simp [Rdr.numB]
theorem drop_mid {a b c : List UInt8} (k : Nat) (h : a.length = k) : ((a ++ (b ++ c)).drop k).take b.length = b := by
  rw [← h, List.drop_left, List.take_left]
theorem dec_cons (k : UInt8) (tl : List UInt8) (b : List UInt8) (hb : b = k :: tl) : decM b =
    (if k.toNat = 1 then (if b.length < 3 then (.zero, 2) else if 3 < b.length then (.zero, 3) else (⟨1, 0, 0, Rdr.beN ((b.drop 1).take 2), z16, []⟩, 0))
    else if k.toNat = 2 then
      (if b.length < 27 then (.zero, 2) else if 1000 < Rdr.beN ((b.drop 25).take 2) then (.zero, 4) else if b.length < 27 + Rdr.beN ((b.drop 25).take 2) then (.zero, 2) else if 27 + Rdr.beN ((b.drop 25).take 2) < b.length then (.zero, 3)
      else (⟨2, Rdr.beN ((b.drop 1).take 4), Rdr.beN ((b.drop 5).take 4), 0, (b.drop 9).take 16, (b.drop 27).take (Rdr.beN ((b.drop 25).take 2))⟩, 0))
    else if k.toNat = 3 ∨ k.toNat = 4 then (if b.length < 5 then (.zero, 2) else if 5 < b.length then (.zero, 3) else (⟨(k.toNat : Int), Rdr.beN ((b.drop 1).take 4), 0, 0, z16, []⟩, 0))
    else (.zero, 4)) := by
  subst hb
  rfl
/-- what was encoded is read -/
theorem dec_enc (m : MsgD) (hw : m.wf) (h : m.right) : decM m.bytes = (m, 0) := by
  obtain ⟨kind, ses, seq, quo, hint, blob⟩ := m
  have hl := bytes_len _ hw h
  have h1 := hw.ses
  have h2 := hw.seq
  have h3 := hw.quo
  have h4 := hw.hint
  dsimp only at h1 h2 h3 h4
  rcases h with ⟨hk, h⟩ | ⟨hk, h⟩ | ⟨hk, h⟩
  · dsimp only at hk h
    obtain ⟨rfl, rfl, rfl, rfl, hq⟩ := h
    subst hk
    have hb : MsgD.bytes ⟨1, 0, 0, quo, z16, []⟩ = 1 :: be quo 2 := by unfold MsgD.bytes; rw [be1]; rfl
    rw [hb] at hl ⊢
    simp only [if_true] at hl
    have hlen : (1 :: be quo 2).length = 3 := by simp [be_length]
    rw [dec_cons 1 _ _ rfl, if_pos (show (1 : UInt8).toNat = 1 from rfl), if_neg (by omega), if_neg (by omega)]
    have : ((1 :: be quo 2).drop 1).take 2 = be quo 2 := by
      show (be quo 2).take 2 = be quo 2
      exact List.take_of_length_le (by rw [be_length]; omega)
    rw [this, beN_be _ _ (by omega) (by omega)]
  · dsimp only at hk h
    obtain ⟨rfl, hbl⟩ := h
    subst hk
    have hb : MsgD.bytes ⟨2, ses, seq, 0, hint, blob⟩ = 2 :: (be ses 4 ++ (be seq 4 ++ (hint ++ (be blob.length 2 ++ blob)))) := by unfold MsgD.bytes; rw [be1]; rfl
    rw [hb] at hl ⊢
    simp at hl
    simp only [List.length_cons, List.length_append, be_length, h4] at hl
    have e1 : ((2 :: (be ses 4 ++ (be seq 4 ++ (hint ++ (be blob.length 2 ++ blob))))).drop 1).take 4 = be ses 4 := by
      have := drop_mid (a := [2]) (b := be ses 4) (c := be seq 4 ++ (hint ++ (be blob.length 2 ++ blob))) 1 rfl
      rw [be_length] at this; exact this
    have e2 : ((2 :: (be ses 4 ++ (be seq 4 ++ (hint ++ (be blob.length 2 ++ blob))))).drop 5).take 4 = be seq 4 := by
      have := drop_mid (a := 2 :: be ses 4) (b := be seq 4) (c := hint ++ (be blob.length 2 ++ blob)) 5 (by simp [be_length])
      rw [be_length] at this; simpa using this
    have e3 : ((2 :: (be ses 4 ++ (be seq 4 ++ (hint ++ (be blob.length 2 ++ blob))))).drop 9).take 16 = hint := by
      have := drop_mid (a := 2 :: (be ses 4 ++ be seq 4)) (b := hint) (c := be blob.length 2 ++ blob) 9 (by simp [be_length])
      rw [h4] at this; simpa using this
    have e4 : ((2 :: (be ses 4 ++ (be seq 4 ++ (hint ++ (be blob.length 2 ++ blob))))).drop 25).take 2 = be blob.length 2 := by
      have := drop_mid (a := 2 :: (be ses 4 ++ (be seq 4 ++ hint))) (b := be blob.length 2) (c := blob) 25 (by simp [be_length, h4])
      rw [be_length] at this; simpa using this
    have e5 : (2 :: (be ses 4 ++ (be seq 4 ++ (hint ++ (be blob.length 2 ++ blob))))).drop 27 = blob := by
      have : 2 :: (be ses 4 ++ (be seq 4 ++ (hint ++ (be blob.length 2 ++ blob)))) = (2 :: (be ses 4 ++ (be seq 4 ++ (hint ++ be blob.length 2)))) ++ blob := by simp
      rw [this, List.drop_append_of_le_length (by simp [be_length, h4]), List.drop_of_length_le (by simp [be_length, h4])]; rfl
    have hlen : (2 :: (be ses 4 ++ (be seq 4 ++ (hint ++ (be blob.length 2 ++ blob))))).length = 27 + blob.length := by simp only [List.length_cons, List.length_append, be_length, h4]; omega
    rw [dec_cons 2 _ _ rfl, if_neg (by decide), if_pos (show (2 : UInt8).toNat = 2 from rfl), e1, e2, e3, e4, e5, beN_be _ 2 (by omega) (by omega), beN_be _ 4 (by omega) (by omega), beN_be _ 4 (by omega) (by omega)]
    rw [if_neg (by omega), if_neg (by omega), if_neg (by omega), if_neg (by omega), List.take_length]
  · dsimp only at hk h
    obtain ⟨rfl, rfl, rfl, rfl⟩ := h
    rcases hk with rfl | rfl
    · have hb : MsgD.bytes ⟨3, ses, 0, 0, z16, []⟩ = 3 :: be ses 4 := by unfold MsgD.bytes; rw [be1]; simp
      rw [hb] at hl ⊢
      simp at hl
      have hlen : (3 :: be ses 4).length = 5 := by simp [be_length]
      rw [dec_cons 3 _ _ rfl, if_neg (by decide), if_neg (by decide), if_pos (by decide), if_neg (by omega), if_neg (by omega)]
      have : ((3 :: be ses 4).drop 1).take 4 = be ses 4 := by
        show (be ses 4).take 4 = be ses 4
        exact List.take_of_length_le (by rw [be_length]; omega)
      rw [this, beN_be _ _ (by omega) (by omega)]; rfl
    · have hb : MsgD.bytes ⟨4, ses, 0, 0, z16, []⟩ = 4 :: be ses 4 := by unfold MsgD.bytes; rw [be1]; simp
      rw [hb] at hl ⊢
      simp at hl
      have hlen : (4 :: be ses 4).length = 5 := by simp [be_length]
      rw [dec_cons 4 _ _ rfl, if_neg (by decide), if_neg (by decide), if_pos (by decide), if_neg (by omega), if_neg (by omega)]
      have : ((4 :: be ses 4).drop 1).take 4 = be ses 4 := by
        show (be ses 4).take 4 = be ses 4
        exact List.take_of_length_le (by rw [be_length]; omega)
      rw [this, beN_be _ _ (by omega) (by omega)]; rfl
theorem mid_take (b : List UInt8) (n i j : Nat) (h : i + j ≤ n) : ((b.take n).drop i).take j = (b.drop i).take j := by
  rw [List.drop_take, List.take_take]
  congr 1
  omega
theorem mid_app (b c : List UInt8) (i j : Nat) (h : i + j ≤ b.length) : ((b ++ c).drop i).take j = (b.drop i).take j := by
  rw [List.drop_append_of_le_length (by omega), List.take_append_of_le_length (by rw [List.length_drop]; omega)]
/-- the first byte, and the count -/
theorem shape (m : MsgD) (hw : m.wf) (h : m.right) : ∃ k tl, m.bytes = k :: tl ∧ ((k.toNat = 1 ∧ m.kind = 1) ∨ (k.toNat = 2 ∧ m.kind = 2 ∧ Rdr.beN ((m.bytes.drop 25).take 2) = m.blob.length ∧ m.blob.length ≤ 1000) ∨ ((k.toNat = 3 ∨ k.toNat = 4) ∧ m.kind ≠ 1 ∧ m.kind ≠ 2)) := by
  obtain ⟨kind, ses, seq, quo, hint, blob⟩ := m
  have h4 := hw.hint
  dsimp only at h4
  rcases h with ⟨hk, h⟩ | ⟨hk, h⟩ | ⟨hk, h⟩
  · dsimp only at hk
    subst hk
    exact ⟨1, be quo 2, by unfold MsgD.bytes; rw [be1]; rfl, .inl ⟨rfl, rfl⟩⟩
  · dsimp only at hk h
    obtain ⟨rfl, hbl⟩ := h
    subst hk
    have hb : MsgD.bytes ⟨2, ses, seq, 0, hint, blob⟩ = 2 :: (be ses 4 ++ (be seq 4 ++ (hint ++ (be blob.length 2 ++ blob)))) := by unfold MsgD.bytes; rw [be1]; rfl
    refine ⟨2, _, hb, .inr (.inl ⟨rfl, rfl, ?_, hbl⟩)⟩
    rw [hb]
    have := drop_mid (a := 2 :: (be ses 4 ++ (be seq 4 ++ hint))) (b := be blob.length 2) (c := blob) 25 (by simp [be_length, h4])
    rw [be_length] at this
    have e4 : ((2 :: (be ses 4 ++ (be seq 4 ++ (hint ++ (be blob.length 2 ++ blob))))).drop 25).take 2 = be blob.length 2 := by simpa using this
    rw [e4, beN_be _ _ (by omega) (by omega)]
  · dsimp only at hk h
    obtain ⟨rfl, rfl, rfl, rfl⟩ := h
    rcases hk with rfl | rfl
    · exact ⟨3, be ses 4, by unfold MsgD.bytes; rw [be1]; simp, .inr (.inr ⟨.inl rfl, by dsimp only; omega, by dsimp only; omega⟩)⟩
    · exact ⟨4, be ses 4, by unfold MsgD.bytes; rw [be1]; simp, .inr (.inr ⟨.inr rfl, by dsimp only; omega, by dsimp only; omega⟩)⟩
theorem dec_less (m : MsgD) (hw : m.wf) (h : m.right) : (decM (m.bytes.take (m.bytes.length - 1))).2 = 2 := by
  have hl := bytes_len m hw h
  obtain ⟨k, tl, hb, hc⟩ := shape m hw h
  have hlt : 2 ≤ m.bytes.length := by rw [hl]; split <;> (try split) <;> omega
  have hb2 : m.bytes.take (m.bytes.length - 1) = k :: tl.take (m.bytes.length - 2) := by
    obtain ⟨n, hn⟩ : ∃ n, m.bytes.length - 1 = n + 1 := ⟨m.bytes.length - 2, by omega⟩
    rw [hn, show m.bytes.length - 2 = n by omega, hb]; rfl
  have hl2 : (m.bytes.take (m.bytes.length - 1)).length = m.bytes.length - 1 := by rw [List.length_take]; omega
  rw [dec_cons _ _ _ hb2, hl2]
  rcases hc with ⟨h1, h2⟩ | ⟨h1, h2, h3, h4⟩ | ⟨h1, h2, h3⟩
  · rw [if_pos h2] at hl
    rw [if_pos h1, if_pos (by omega)]
  · rw [h2, if_neg (by decide), if_pos rfl] at hl
    rw [if_neg (by omega), if_pos h1]
    by_cases h27 : m.bytes.length - 1 < 27
    · rw [if_pos h27]
    · rw [if_neg h27, mid_take _ _ _ _ (by omega), h3, if_neg (by omega), if_pos (by omega)]
  · rw [if_neg h2, if_neg h3] at hl
    rw [if_neg (by omega), if_neg (by omega), if_pos h1, if_pos (by omega)]
theorem dec_more (m : MsgD) (hw : m.wf) (h : m.right) (x : UInt8) : (decM (m.bytes ++ [x])).2 = 3 := by
  have hl := bytes_len m hw h
  obtain ⟨k, tl, hb, hc⟩ := shape m hw h
  have hb2 : m.bytes ++ [x] = k :: (tl ++ [x]) := by rw [hb]; rfl
  have hl2 : (m.bytes ++ [x]).length = m.bytes.length + 1 := by simp
  rw [dec_cons _ _ _ hb2, hl2]
  rcases hc with ⟨h1, h2⟩ | ⟨h1, h2, h3, h4⟩ | ⟨h1, h2, h3⟩
  · rw [if_pos h2] at hl
    rw [if_pos h1, if_neg (by omega), if_pos (by omega)]
  · rw [h2, if_neg (by decide), if_pos rfl] at hl
    rw [if_neg (by omega), if_pos h1, mid_app _ _ _ _ (by omega), h3, if_neg (by omega), if_neg (by omega), if_neg (by omega), if_pos (by omega)]
  · rw [if_neg h2, if_neg h3] at hl
    rw [if_neg (by omega), if_neg (by omega), if_pos h1, if_neg (by omega), if_pos (by omega)]
theorem beN_take {l : List UInt8} {i k : Nat} (h : i + k ≤ l.length) : Rdr.beN ((l.drop i).take k) < 256 ^ k := by
  have := Rdr.beN_lt_pow ((l.drop i).take k)
  rwa [List.length_take, List.length_drop, Nat.min_eq_left (by omega)] at this
theorem be_take {l : List UInt8} {i k : Nat} (h : i + k ≤ l.length) (hk : k ≤ 8) : be (Rdr.beN ((l.drop i).take k)) k = (l.drop i).take k := be_beN _ _ (by rw [List.length_take, List.length_drop]; omega) hk
theorem cut2 (l : List UInt8) (i k : Nat) : (l.drop i).take k ++ l.drop (i + k) = l.drop i := by
  rw [← List.drop_drop, List.take_append_drop]
theorem dec_zero (b : List UInt8) (h : (decM b).2 ≠ 0) : (decM b).1 = .zero := by
  cases b with
  | nil => rfl
  | cons k tl =>
    rw [dec_cons k tl _ rfl] at h ⊢
    split
    · rename_i h1; rw [if_pos h1] at h; split; rfl; split; rfl; rename_i a b; rw [if_neg a, if_neg b] at h; exact absurd rfl h
    split
    · rename_i h0 h1; rw [if_neg h0, if_pos h1] at h; split; rfl; split; rfl; split; rfl; split; rfl; rename_i a b c d; rw [if_neg a, if_neg b, if_neg c, if_neg d] at h; exact absurd rfl h
    split
    · rename_i h0 h1 h2; rw [if_neg h0, if_neg h1, if_pos h2] at h; split; rfl; split; rfl; rename_i a b; rw [if_neg a, if_neg b] at h; exact absurd rfl h
    · rfl
theorem dec_back (b : List UInt8) (h : (decM b).2 = 0) : (decM b).1.right ∧ (decM b).1.wf ∧ (decM b).1.bytes = b := by
  cases b with
  | nil => cases h
  | cons k tl =>
    rw [dec_cons k tl _ rfl] at h ⊢
    generalize hbb : k :: tl = b at *
    have hd1 : b = be k.toNat 1 ++ b.drop 1 := by rw [be1, ← hbb]; simp
    split
    · rename_i h1
      rw [if_pos h1] at h
      split at h
      · cases h
      split at h
      · cases h
      rename_i a c
      rw [if_neg a, if_neg c]
      have hq := beN_take (l := b) (i := 1) (k := 2) (by omega)
      refine ⟨.inl ⟨rfl, rfl, rfl, rfl, rfl, by simpa using hq⟩, ⟨by dsimp only; omega, by dsimp only; omega, by dsimp only; omega, by show Rdr.beN _ < _; omega, rfl⟩, ?_⟩
      unfold MsgD.bytes
      dsimp only
      rw [if_pos rfl, be_take (by omega) (by omega)]
      have e1 : (b.drop 1).take 2 = b.drop 1 := List.take_of_length_le (by rw [List.length_drop]; omega)
      rw [e1]
      rw [h1] at hd1
      exact hd1.symm
    split
    · rename_i h0 h1
      rw [if_neg h0, if_pos h1] at h
      split at h
      · cases h
      split at h
      · cases h
      split at h
      · cases h
      split at h
      · cases h
      rename_i a c d e
      rw [if_neg a, if_neg c, if_neg d, if_neg e]
      have hn := beN_take (l := b) (i := 25) (k := 2) (by omega)
      have hq1 := beN_take (l := b) (i := 1) (k := 4) (by omega)
      have hq2 := beN_take (l := b) (i := 5) (k := 4) (by omega)
      have hlen : ((b.drop 27).take (Rdr.beN ((b.drop 25).take 2))).length = Rdr.beN ((b.drop 25).take 2) := by rw [List.length_take, List.length_drop]; omega
      refine ⟨.inr (.inl ⟨rfl, rfl, by rw [hlen]; omega⟩), ⟨by dsimp only; omega, by show Rdr.beN _ < _; omega, by show Rdr.beN _ < _; omega, by dsimp only; omega, by show List.length _ = _; rw [List.length_take, List.length_drop]; omega⟩, ?_⟩
      unfold MsgD.bytes
      dsimp only
      rw [if_neg (by decide), if_pos rfl, hlen, be_take (by omega) (by omega), be_take (by omega) (by omega), be_take (by omega) (by omega)]
      have e5 : (b.drop 27).take (Rdr.beN ((b.drop 25).take 2)) = b.drop 27 := List.take_of_length_le (by rw [List.length_drop]; omega)
      rw [e5, cut2 b 25 2, cut2 b 9 16, cut2 b 5 4, cut2 b 1 4]
      rw [h1] at hd1
      exact hd1.symm
    split
    · rename_i h0 h1 h2
      rw [if_neg h0, if_neg h1, if_pos h2] at h
      split at h
      · cases h
      split at h
      · cases h
      rename_i a c
      rw [if_neg a, if_neg c]
      have hq := beN_take (l := b) (i := 1) (k := 4) (by omega)
      have e1 : (b.drop 1).take 4 = b.drop 1 := List.take_of_length_le (by rw [List.length_drop]; omega)
      refine ⟨.inr (.inr ⟨by dsimp only; omega, rfl, rfl, rfl, rfl⟩), ⟨by dsimp only; omega, by show Rdr.beN _ < _; omega, by dsimp only; omega, by dsimp only; omega, rfl⟩, ?_⟩
      unfold MsgD.bytes
      dsimp only
      rw [if_neg (by omega), if_neg (by omega), be_take (by omega) (by omega), e1, List.append_nil, Int.toNat_natCast]
      exact hd1.symm
    · rename_i h0 h1 h2
      rw [if_neg h0, if_neg h1, if_neg h2] at h
      cases h
end Go.Proofs.YtmjdpfmofbbknaaDoor.Msg
