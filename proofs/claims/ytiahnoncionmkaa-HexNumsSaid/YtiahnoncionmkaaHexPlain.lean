/- LAYER 12, PLAIN: bytes as signs, numbers as digits, there and back. No program is named. Conditions: none. -/
import GoSem.Op.String
namespace Go.Mir.Hx

/-! ### signs -/
/-- a half byte's sign -/
def sgn (n : Nat) : UInt8 := if n < 10 then UInt8.ofNat (48 + n) else UInt8.ofNat (87 + n)
/-- a sign's half byte -/
def dig (c : Nat) : Option Nat := if 48 ≤ c ∧ c ≤ 57 then some (c - 48) else if 97 ≤ c ∧ c ≤ 102 then some (c - 87) else none
theorem sgn_toNat (n : Nat) (h : n < 16) : (sgn n).toNat = if n < 10 then 48 + n else 87 + n := by
  unfold sgn
  split <;> (rw [UInt8.toNat_ofNat']; exact Nat.mod_eq_of_lt (by omega))
theorem dig_sgn (n : Nat) (h : n < 16) : dig (sgn n).toNat = some n := by
  rw [sgn_toNat n h]; unfold dig
  by_cases h1 : n < 10
  · rw [if_pos h1, if_pos (by omega)]; congr 1; omega
  · rw [if_neg h1, if_neg (by omega), if_pos (by omega)]; congr 1; omega
theorem dig_lt {c n : Nat} (h : dig c = some n) : n < 16 := by
  unfold dig at h
  split at h
  · cases h; omega
  · split at h
    · cases h; omega
    · cases h
theorem sgn_dig {c : UInt8} {n : Nat} (h : dig c.toNat = some n) : sgn n = c := by
  apply UInt8.toNat_inj.1
  rw [sgn_toNat n (dig_lt h)]
  unfold dig at h
  split at h
  · cases h; rw [if_pos (by omega)]; omega
  · split at h
    · cases h; rw [if_neg (by omega)]; omega
    · cases h
theorem dig_high {c : Nat} (h : 128 ≤ c) : dig c = none := by unfold dig; rw [if_neg (by omega), if_neg (by omega)]

/-- bytes as signs -/
def pairsL (b : List UInt8) : List UInt8 := b.flatMap fun x => [sgn (x.toNat / 16), sgn (x.toNat % 16)]
theorem pairsL_nil : pairsL [] = [] := rfl
theorem pairsL_cons (x : UInt8) (b : List UInt8) : pairsL (x :: b) = sgn (x.toNat / 16) :: sgn (x.toNat % 16) :: pairsL b := rfl
theorem pairsL_append (a b : List UInt8) : pairsL (a ++ b) = pairsL a ++ pairsL b := by simp [pairsL]
theorem pairsL_snoc (a : List UInt8) (x : UInt8) : pairsL (a ++ [x]) = pairsL a ++ [sgn (x.toNat / 16)] ++ [sgn (x.toNat % 16)] := by rw [pairsL_append]; simp [pairsL]
theorem pairsL_length (b : List UInt8) : (pairsL b).length = 2 * b.length := by
  induction b with
  | nil => rfl
  | cons x b ih => rw [pairsL_cons, List.length_cons, List.length_cons, ih, List.length_cons]; omega

/-- signs as bytes -/
def readL : List UInt8 → Option (List UInt8)
  | [] => some []
  | [_] => none
  | a :: b :: r => match dig a.toNat, dig b.toNat, readL r with
    | some x, some y, some l => some (UInt8.ofNat (16 * x + y) :: l)
    | _, _, _ => none
theorem readL_two (a b : UInt8) (r : List UInt8) : readL (a :: b :: r) = match dig a.toNat, dig b.toNat, readL r with
    | some x, some y, some l => some (UInt8.ofNat (16 * x + y) :: l)
    | _, _, _ => none := by rw [readL]
theorem byte_parts (x : UInt8) : UInt8.ofNat (16 * (x.toNat / 16) + x.toNat % 16) = x := by
  rw [Nat.div_add_mod]; simp
theorem readL_pairs (b : List UInt8) : readL (pairsL b) = some b := by
  induction b with
  | nil => rfl
  | cons x b ih =>
    have hx := x.toNat_lt
    rw [pairsL_cons, readL_two, dig_sgn _ (by omega), dig_sgn _ (by omega), ih]
    simp only [byte_parts]
theorem pairs_read : ∀ (s b : List UInt8), readL s = some b → pairsL b = s
  | [], b, h => by rw [readL] at h; cases h; rfl
  | [_], b, h => by rw [readL] at h; cases h
  | a :: c :: r, b, h => by
    rw [readL_two] at h
    split at h
    · rename_i x y l hx hy hl
      cases h
      have hx' := dig_lt hx
      have hy' := dig_lt hy
      rw [pairsL_cons, pairs_read r l hl, UInt8.toNat_ofNat', Nat.mod_eq_of_lt (show 16 * x + y < 2 ^ 8 by omega),
        show (16 * x + y) / 16 = x by omega, show (16 * x + y) % 16 = y by omega, sgn_dig hx, sgn_dig hy]
    · cases h
theorem read_length {s b : List UInt8} (h : readL s = some b) : s.length = 2 * b.length := by rw [← pairs_read s b h, pairsL_length]
theorem readL_odd : ∀ (s : List UInt8), s.length % 2 = 1 → readL s = none := fun s h => by
  cases hr : readL s with
  | none => rfl
  | some b => have := read_length hr; omega
/-- two signs more -/
theorem readL_append : ∀ (s t : List UInt8), s.length % 2 = 0 → readL (s ++ t) = (readL s).bind fun x => (readL t).map fun y => x ++ y
  | [], t, _ => by cases h : readL t <;> simp [readL, h]
  | [_], t, h => by simp at h
  | a :: b :: r, t, h => by
    have ih := readL_append r t (by simp at h; omega)
    rw [List.cons_append, List.cons_append, readL_two, readL_two, ih]
    cases dig a.toNat <;> cases dig b.toNat <;> cases readL r <;> cases readL t <;> rfl

/-! ### the state of a reading, sign by sign: bytes, the high half, is one half there? -/
def stp (x : List UInt8 × Nat × Bool) (n : Nat) : List UInt8 × Nat × Bool := if x.2.2 then (x.1 ++ [UInt8.ofNat (16 * x.2.1 + n)], n, false) else (x.1, n, true)
def st (x : List UInt8 × Nat × Bool) : List UInt8 → Option (List UInt8 × Nat × Bool)
  | [] => some x
  | c :: r => match dig c.toNat with
    | some n => st (stp x n) r
    | none => none
theorem st_snoc (c : UInt8) : ∀ (s : List UInt8) (x : List UInt8 × Nat × Bool), st x (s ++ [c]) = (st x s).bind fun y => (dig c.toNat).map fun n => stp y n
  | [], x => by simp only [List.nil_append, st]; cases dig c.toNat <;> rfl
  | d :: r, x => by
    rw [List.cons_append]
    simp only [st]
    cases dig d.toNat with
    | none => rfl
    | some n => exact st_snoc c r (stp x n)
theorem st_bad (c : UInt8) (h : dig c.toNat = none) : ∀ (s t : List UInt8) (x : List UInt8 × Nat × Bool), st x (s ++ c :: t) = none
  | [], t, x => by simp only [List.nil_append, st, h]
  | d :: r, t, x => by
    rw [List.cons_append]
    simp only [st]
    cases dig d.toNat with
    | none => rfl
    | some n => exact st_bad c h r t (stp x n)
/-- is it half way? -/
theorem st_half : ∀ (s : List UInt8) (x y : List UInt8 × Nat × Bool), st x s = some y → y.2.2 = (x.2.2 ^^ decide (s.length % 2 = 1))
  | [], x, y, h => by simp only [st, Option.some.injEq] at h; subst h; simp
  | c :: r, x, y, h => by
    simp only [st] at h
    cases hd : dig c.toNat with
    | none => rw [hd] at h; cases h
    | some n =>
      rw [hd] at h
      have h1 := st_half r _ y h
      have h2 : (stp x n).2.2 = !x.2.2 := by unfold stp; cases x.2.2 <;> rfl
      rw [h1, h2]
      by_cases hp : r.length % 2 = 1
      · rw [decide_eq_true hp, decide_eq_false (by simp; omega)]; cases x.2.2 <;> rfl
      · rw [decide_eq_false hp, decide_eq_true (by simp; omega)]; cases x.2.2 <;> rfl
theorem st_read : ∀ (s : List UInt8) (o : List UInt8) (h0 : Nat), s.length % 2 = 0 → (st (o, h0, false) s).map (·.1) = (readL s).map (o ++ ·)
  | [], o, h0, _ => by simp [st, readL]
  | [_], o, h0, h => by simp at h
  | a :: b :: r, o, h0, h => by
    rw [readL_two]
    simp only [st]
    cases ha : dig a.toNat with
    | none => rfl
    | some x =>
      cases hb : dig b.toNat with
      | none => rfl
      | some y =>
        have ih := st_read r (o ++ [UInt8.ofNat (16 * x + y)]) y (by simp at h; omega)
        simp only [stp, Bool.false_eq_true, if_false, if_true]
        rw [ih]
        cases readL r <;> simp
/-- the end of a reading -/
theorem st_end (s : List UInt8) : (match st ([], 0, false) s with | some y => (if y.2.2 then none else some y.1) | none => none) = readL s := by
  cases h : st ([], 0, false) s with
  | none =>
    by_cases hp : s.length % 2 = 1
    · rw [readL_odd s hp]
    · have h1 := st_read s [] 0 (by omega)
      rw [h] at h1
      cases hr : readL s with
      | none => rfl
      | some l => rw [hr] at h1; cases h1
  | some y =>
    have h2 := st_half s _ y h
    simp only
    by_cases hp : s.length % 2 = 1
    · rw [h2, decide_eq_true hp, readL_odd s hp]; rfl
    · have h1 := st_read s [] 0 (by omega)
      rw [h] at h1
      rw [h2, decide_eq_false hp]
      cases hr : readL s with
      | none => rw [hr] at h1; cases h1
      | some l =>
        rw [hr] at h1
        simp only [Option.map_some, List.nil_append, Option.some.injEq] at h1
        simp [h1]

/-- bytes told, and a text read -/
def textL (l : List UInt8) : List UInt8 := if l = [] then [45] else pairsL l
def bytesL (l : List UInt8) : Option (List UInt8) := if l = [45] then some [] else if l = [] then none else readL l
theorem pairsL_ne (l : List UInt8) : pairsL l ≠ [45] := fun h => by
  have := congrArg List.length h
  rw [pairsL_length] at this; simp at this; omega
theorem bytes_text (l : List UInt8) : bytesL (textL l) = some l := by
  unfold textL
  by_cases h : l = []
  · rw [if_pos h, h]; rfl
  · rw [if_neg h]
    unfold bytesL
    rw [if_neg (pairsL_ne l), if_neg (fun e => h (by
      have := congrArg List.length e
      rw [pairsL_length] at this
      exact List.length_eq_zero_iff.1 (by simp at this; omega)))]
    exact readL_pairs l
theorem text_bytes (s b : List UInt8) (h : bytesL s = some b) : textL b = s := by
  unfold bytesL at h
  split at h
  · rename_i h1; cases h; rw [h1]; rfl
  · split at h
    · cases h
    · rename_i h1 h2
      have := pairs_read s b h
      unfold textL
      rw [if_neg (fun e => h2 (by rw [← this, e]; rfl))]
      exact this

/-! ### ids: the last zero bytes go -/
/-- how many bytes of an id are told -/
def trimN (x : List UInt8) : Nat → Nat
  | 0 => 0
  | 1 => 1
  | n + 2 => if x[n + 1]? = some 0 then trimN x (n + 1) else n + 2
theorem trimN_bounds (x : List UInt8) : ∀ n, trimN x n ≤ n ∧ (0 < n → 0 < trimN x n)
  | 0 => ⟨Nat.le_refl _, fun h => h⟩
  | 1 => ⟨Nat.le_refl _, fun _ => by simp [trimN]⟩
  | n + 2 => by
    have ih := trimN_bounds x (n + 1)
    rw [trimN]
    split
    · exact ⟨by omega, fun _ => ih.2 (by omega)⟩
    · exact ⟨Nat.le_refl _, fun _ => by omega⟩
theorem trimN_zero (x : List UInt8) : ∀ n i, trimN x n ≤ i → i < n → x[i]? = some 0
  | 0, i, _, h => by omega
  | 1, i, h, h' => by simp only [trimN] at h; omega
  | n + 2, i, h, h' => by
    rw [trimN] at h
    split at h
    · rename_i hz
      by_cases hi : i = n + 1
      · rw [hi]; exact hz
      · exact trimN_zero x (n + 1) i h (by omega)
    · omega
theorem trimN_last (x : List UInt8) : ∀ n, 1 < trimN x n → x[trimN x n - 1]? ≠ some 0
  | 0, h => by simp [trimN] at h
  | 1, h => by simp [trimN] at h
  | n + 2, h => by
    rw [trimN] at h ⊢
    split at h
    · rename_i hz; rw [if_pos hz]; exact trimN_last x (n + 1) h
    · rename_i hz; rw [if_neg hz]; simpa using hz
theorem trimN_step (x : List UInt8) (n : Nat) (h : 1 < n) (hz : x[n - 1]? = some 0) : trimN x n = trimN x (n - 1) := by
  obtain ⟨m, rfl⟩ : ∃ m, n = m + 2 := ⟨n - 2, by omega⟩
  rw [trimN, if_pos (by simpa using hz)]; rfl
theorem trimN_stop (x : List UInt8) (n : Nat) (h : n ≤ 1 ∨ x[n - 1]? ≠ some 0) : trimN x n = n := by
  match n with
  | 0 => rfl
  | 1 => rfl
  | m + 2 => rw [trimN, if_neg (by rcases h with h | h; omega; simpa using h)]
/-- bytes, and zeros up to 32 -/
def padId (b : List UInt8) : List UInt8 := b ++ List.replicate (32 - b.length) 0
theorem padId_length (b : List UInt8) (h : b.length ≤ 32) : (padId b).length = 32 := by simp [padId]; omega
theorem padId_get (b : List UInt8) (h : b.length ≤ 32) (i : Nat) (hi : i < 32) : (padId b)[i]? = some (b.getD i 0) := by
  unfold padId
  by_cases hb : i < b.length
  · rw [List.getElem?_append_left hb]; simp [hb]
  · rw [List.getElem?_append_right (by omega), List.getElem?_replicate_of_lt (by omega)]
    simp [List.getD, List.getElem?_eq_none (by omega : b.length ≤ i)]
/-- an id, told, and padded again -/
theorem pad_trim (x : List UInt8) (h : x.length = 32) : padId (x.take (trimN x 32)) = x := by
  have hb := trimN_bounds x 32
  have hl : (x.take (trimN x 32)).length = trimN x 32 := by rw [List.length_take]; omega
  apply List.ext_getElem?
  intro i
  by_cases hi : i < 32
  · rw [padId_get _ (by omega) i hi]
    by_cases hk : i < trimN x 32
    · rw [List.getD_eq_getElem?_getD, List.getElem?_take_of_lt hk, List.getElem?_eq_getElem (by omega)]; rfl
    · rw [trimN_zero x 32 i (by omega) hi, List.getD_eq_getElem?_getD, List.getElem?_eq_none (by omega)]; rfl
  · rw [List.getElem?_eq_none (by rw [padId_length _ (by omega)]; omega), List.getElem?_eq_none (by omega)]
/-- which bytes are an id's, told -/
theorem trim_pad (b : List UInt8) (h0 : 0 < b.length) (h : b.length ≤ 32) : (padId b).take (trimN (padId b) 32) = b ↔ (b.length ≤ 1 ∨ b[b.length - 1]? ≠ some 0) := by
  have key : ∀ k, b.length ≤ k → k ≤ 32 → trimN (padId b) k = trimN (padId b) b.length := by
    intro k hk h32
    induction k with
    | zero => omega
    | succ k ih =>
      by_cases e : b.length = k + 1
      · rw [e]
      · rw [trimN_step _ (k + 1) (by omega) (by rw [Nat.add_sub_cancel, padId_get b h k (by omega), List.getD_eq_getElem?_getD, List.getElem?_eq_none (by omega)]; rfl)]
        exact ih (by omega) (by omega)
  rw [key 32 h (Nat.le_refl _)]
  have hlast : (padId b)[b.length - 1]? = b[b.length - 1]? := by unfold padId; rw [List.getElem?_append_left (by omega)]
  constructor
  · intro he
    by_cases h1 : b.length ≤ 1
    · exact .inl h1
    · refine .inr ?_
      have ht : trimN (padId b) b.length = b.length := by
        have := congrArg List.length he
        rw [List.length_take, padId_length b h] at this
        have := (trimN_bounds (padId b) b.length).1
        omega
      have := trimN_last (padId b) b.length (by omega)
      rw [ht, hlast] at this; exact this
  · intro hc
    rw [trimN_stop _ _ (by rcases hc with hc | hc; exact .inl hc; exact .inr (by rw [hlast]; exact hc))]
    unfold padId
    rw [List.take_left']; rfl
theorem padId_inj {a b : List UInt8} (ha : a.length = 32) (hb : b.length = 32) (h : pairsL (a.take (trimN a 32)) = pairsL (b.take (trimN b 32))) : a = b := by
  have h1 : a.take (trimN a 32) = b.take (trimN b 32) := by
    have e1 := readL_pairs (a.take (trimN a 32))
    rw [h, readL_pairs] at e1
    exact (Option.some.inj e1).symm
  rw [← pad_trim a ha, h1, pad_trim b hb]

/-! ### numbers -/
def dec : Nat → Nat → List UInt8
  | 0, _ => []
  | f + 1, n => if n < 10 then [UInt8.ofNat (48 + n)] else dec f (n / 10) ++ [UInt8.ofNat (48 + n % 10)]
/-- a number's digits -/
def decL (n : Nat) : List UInt8 := dec (n + 1) n
theorem dec_enough : ∀ (f g n : Nat), n < f → n < g → dec f n = dec g n
  | 0, _, _, h, _ => by omega
  | _, 0, _, _, h => by omega
  | f + 1, g + 1, n, hf, hg => by
    rw [dec, dec]
    split
    · rfl
    · rw [dec_enough f g (n / 10) (by omega) (by omega)]
theorem decL_small (n : Nat) (h : n < 10) : decL n = [UInt8.ofNat (48 + n)] := by rw [decL, dec, if_pos h]
theorem decL_big (n : Nat) (h : 10 ≤ n) : decL n = decL (n / 10) ++ [UInt8.ofNat (48 + n % 10)] := by
  rw [decL, dec, if_neg (by omega), decL, dec_enough n (n / 10 + 1) (n / 10) (by omega) (by omega)]
def isD (c : UInt8) : Prop := 48 ≤ c.toNat ∧ c.toNat ≤ 57
def val (s : List UInt8) : Nat := s.foldl (fun n c => 10 * n + (c.toNat - 48)) 0
theorem val_snoc (s : List UInt8) (c : UInt8) : val (s ++ [c]) = 10 * val s + (c.toNat - 48) := by simp [val]
theorem digit_toNat (n : Nat) (h : n < 10) : (UInt8.ofNat (48 + n)).toNat = 48 + n := by rw [UInt8.toNat_ofNat']; exact Nat.mod_eq_of_lt (by omega)
theorem val_dec (n : Nat) : val (decL n) = n := by
  induction n using Nat.strongRecOn with
  | _ n ih =>
    by_cases h : n < 10
    · rw [decL_small n h]; simp only [val, List.foldl]; rw [digit_toNat n h]; omega
    · rw [decL_big n (by omega), val_snoc, ih (n / 10) (by omega), digit_toNat _ (by omega)]; omega
theorem dec_digits (n : Nat) : ∀ c ∈ decL n, isD c := by
  induction n using Nat.strongRecOn with
  | _ n ih =>
    by_cases h : n < 10
    · rw [decL_small n h]; intro c hc; simp only [List.mem_singleton] at hc; subst hc; unfold isD; rw [digit_toNat n h]; omega
    · rw [decL_big n (by omega)]; intro c hc
      rw [List.mem_append] at hc
      rcases hc with hc | hc
      · exact ih (n / 10) (by omega) c hc
      · simp only [List.mem_singleton] at hc; subst hc; unfold isD; rw [digit_toNat _ (by omega)]; omega
theorem dec_pos (n : Nat) : 0 < (decL n).length := by
  by_cases h : n < 10
  · rw [decL_small n h]; simp
  · rw [decL_big n (by omega)]; simp
/-- how many digits -/
theorem dec_bounds (n : Nat) : n < 10 ^ (decL n).length ∧ (10 ≤ n → 10 ^ ((decL n).length - 1) ≤ n) := by
  induction n using Nat.strongRecOn with
  | _ n ih =>
    by_cases h : n < 10
    · rw [decL_small n h]; exact ⟨by simpa using h, fun h => by omega⟩
    · have hi := ih (n / 10) (by omega)
      have hp := dec_pos (n / 10)
      rw [decL_big n (by omega), List.length_append, List.length_singleton, Nat.add_sub_cancel]
      refine ⟨by rw [Nat.pow_succ]; omega, fun _ => ?_⟩
      by_cases h2 : 10 ≤ n / 10
      · have h3 := hi.2 h2
        obtain ⟨m, hm⟩ : ∃ m, (decL (n / 10)).length = m + 1 := ⟨(decL (n / 10)).length - 1, by omega⟩
        rw [hm] at h3 ⊢
        rw [Nat.pow_succ]
        simp only [Nat.add_sub_cancel] at h3
        omega
      · rw [decL_small (n / 10) (by omega)]; simpa using h
/-- a number's text: digits, and no zero ahead -/
def Nice (s : List UInt8) : Prop := s ≠ [] ∧ (∀ c ∈ s, isD c) ∧ (s[0]? = some 48 → s.length = 1)
theorem snocRec {P : List UInt8 → Prop} (h0 : P []) (h1 : ∀ s c, P s → P (s ++ [c])) (s : List UInt8) : P s := by
  have key : ∀ l : List UInt8, P l.reverse := by
    intro l
    induction l with
    | nil => exact h0
    | cons c l ih => rw [List.reverse_cons]; exact h1 _ c ih
  have := key s.reverse
  rwa [List.reverse_reverse] at this
theorem val_lt : ∀ (s : List UInt8), (∀ c ∈ s, isD c) → val s < 10 ^ s.length := by
  intro s
  refine snocRec (P := fun s => (∀ c ∈ s, isD c) → val s < 10 ^ s.length) ?_ ?_ s
  · intro _; simp [val]
  · intro s c ih h
    have h1 := ih (fun x hx => h x (by simp [hx]))
    have h2 := h c (by simp)
    unfold isD at h2
    rw [val_snoc, List.length_append, List.length_singleton, Nat.pow_succ]
    omega
theorem dec_val : ∀ (s : List UInt8), Nice s → decL (val s) = s := by
  intro s
  refine snocRec (P := fun s => Nice s → decL (val s) = s) ?_ ?_ s
  · intro h; exact absurd rfl h.1
  · intro s c ih h
    have hc := h.2.1 c (by simp)
    unfold isD at hc
    have hc8 : UInt8.ofNat (48 + (c.toNat - 48)) = c := by rw [show 48 + (c.toNat - 48) = c.toNat by omega]; simp
    by_cases hs : s = []
    · subst hs
      rw [List.nil_append, show [c] = ([] : List UInt8) ++ [c] from rfl, val_snoc]
      rw [show 10 * val [] + (c.toNat - 48) = c.toNat - 48 by simp [val], decL_small _ (by omega), hc8]; rfl
    · have hn : Nice s := ⟨hs, fun x hx => h.2.1 x (by simp [hx]), fun h0 => by
        have hl : 0 < s.length := List.length_pos_iff.2 hs
        have := h.2.2 (by rw [List.getElem?_append_left hl]; exact h0)
        rw [List.length_append, List.length_singleton] at this; omega⟩
      have ih' := ih hn
      have hpos : 0 < val s := by
        rcases Nat.eq_zero_or_pos (val s) with h0 | h0
        · exfalso
          rw [h0, decL_small 0 (by omega)] at ih'
          have := h.2.2 (by rw [← ih']; rfl)
          rw [← ih'] at this; simp at this
        · exact h0
      rw [val_snoc, decL_big _ (by omega), show (10 * val s + (c.toNat - 48)) / 10 = val s by omega, show (10 * val s + (c.toNat - 48)) % 10 = c.toNat - 48 by omega, ih', hc8]
theorem dec_nice (n : Nat) : Nice (decL n) := by
  refine ⟨fun h => by have := dec_pos n; rw [h] at this; simp at this, dec_digits n, ?_⟩
  induction n using Nat.strongRecOn with
  | _ n ih =>
    intro h
    by_cases h1 : n < 10
    · rw [decL_small n h1]; rfl
    · exfalso
      rw [decL_big n (by omega), List.getElem?_append_left (dec_pos _)] at h
      have h2 := ih (n / 10) (by omega) h
      by_cases h3 : n / 10 < 10
      · rw [decL_small _ h3] at h
        have h4 : UInt8.ofNat (48 + n / 10) = 48 := by simpa using h
        have := congrArg UInt8.toNat h4
        rw [digit_toNat _ h3] at this
        have h5 : (48 : UInt8).toNat = 48 := rfl
        omega
      · have := (dec_bounds (n / 10)).1
        rw [h2] at this; omega
theorem foldl_val : ∀ (s : List UInt8) (n : Nat), s.foldl (fun n c => 10 * n + (c.toNat - 48)) n = n * 10 ^ s.length + val s
  | [], n => by simp [val]
  | c :: s, n => by
    have h0 : val (c :: s) = s.foldl (fun n c => 10 * n + (c.toNat - 48)) (c.toNat - 48) := by simp [val]
    rw [h0, List.foldl_cons, foldl_val s, foldl_val s (c.toNat - 48), List.length_cons, Nat.pow_succ, Nat.add_mul]
    have : 10 * n * 10 ^ s.length = n * (10 ^ s.length * 10) := by rw [Nat.mul_comm 10 n, Nat.mul_assoc, Nat.mul_comm 10]
    omega
theorem val_cons (c : UInt8) (s : List UInt8) : val (c :: s) = (c.toNat - 48) * 10 ^ s.length + val s := by
  have h := foldl_val s (c.toNat - 48)
  rw [← h]; simp [val]
/-- the order of texts of one length is that of their numbers -/
theorem less_val : ∀ (a b : List UInt8), a.length = b.length → (∀ c ∈ a, isD c) → (∀ c ∈ b, isD c) → (Op.bytesLess a b = true ↔ val a < val b)
  | [], [], _, _, _ => by simp [Op.bytesLess, val]
  | [], _ :: _, h, _, _ => by simp at h
  | _ :: _, [], h, _, _ => by simp at h
  | x :: a, y :: b, h, ha, hb => by
    have hl : a.length = b.length := by simpa using h
    have ih := less_val a b hl (fun c hc => ha c (by simp [hc])) (fun c hc => hb c (by simp [hc]))
    have hx := ha x (by simp)
    have hy := hb y (by simp)
    unfold isD at hx hy
    have va := val_lt a (fun c hc => ha c (by simp [hc]))
    have vb := val_lt b (fun c hc => hb c (by simp [hc]))
    rw [val_cons, val_cons, ← hl]
    rw [← hl] at vb
    generalize 10 ^ a.length = P at *
    simp only [Op.bytesLess, Bool.or_eq_true, Bool.and_eq_true, decide_eq_true_eq, beq_iff_eq, ih, UInt8.lt_iff_toNat_lt]
    rcases Nat.lt_trichotomy x.toNat y.toNat with hc | hc | hc
    · obtain ⟨d, hd⟩ : ∃ d, y.toNat - 48 = (x.toNat - 48) + (d + 1) := ⟨y.toNat - x.toNat - 1, by omega⟩
      rw [hd, Nat.add_mul, Nat.add_mul, Nat.one_mul]
      exact ⟨fun _ => by omega, fun _ => .inl hc⟩
    · have hxy : x = y := UInt8.toNat_inj.1 hc
      subst hxy
      constructor
      · rintro (h | h)
        · omega
        · omega
      · intro h; exact .inr ⟨rfl, by omega⟩
    · obtain ⟨d, hd⟩ : ∃ d, x.toNat - 48 = (y.toNat - 48) + (d + 1) := ⟨x.toNat - y.toNat - 1, by omega⟩
      rw [hd, Nat.add_mul, Nat.add_mul, Nat.one_mul]
      constructor
      · rintro (h | h)
        · omega
        · have := h.1; subst this; omega
      · intro h; omega
theorem dec_longer (v m : Nat) (h : (decL m).length < (decL v).length) : m < v := by
  have h1 := (dec_bounds m).1
  have h2 := dec_bounds v
  have hp := dec_pos m
  by_cases hv : v < 10
  · have h5 : (decL v).length = 1 := by rw [decL_small v hv]; rfl
    omega
  · have h3 := h2.2 (by omega)
    have h4 : 10 ^ (decL m).length ≤ 10 ^ ((decL v).length - 1) := Nat.pow_le_pow_right (by omega) (by omega)
    omega
/-- which texts tell too great a number -/
theorem too_great (s : List UInt8) (m : Nat) (h : Nice s) : ((decL m).length < s.length ∨ s.length = (decL m).length ∧ Op.bytesLess (decL m) s = true) ↔ m < val s := by
  have hs := dec_val s h
  rcases Nat.lt_trichotomy (decL m).length s.length with hl | hl | hl
  · exact ⟨fun _ => dec_longer _ _ (by rw [hs]; exact hl), fun _ => .inl hl⟩
  · have h1 := less_val (decL m) s hl (dec_digits m) h.2.1
    rw [val_dec] at h1
    exact ⟨fun h => by rcases h with h | h; omega; exact h1.1 h.2, fun h => .inr ⟨hl.symm, h1.2 h⟩⟩
  · have h1 := dec_longer m (val s) (by rw [hs]; exact hl)
    exact ⟨fun h => by rcases h with h | h <;> omega, fun h => by omega⟩
end Go.Mir.Hx
