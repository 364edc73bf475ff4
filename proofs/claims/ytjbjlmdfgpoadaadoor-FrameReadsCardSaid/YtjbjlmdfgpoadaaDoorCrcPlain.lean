/- THE PLAIN LAWS OF CRC-32C: a sum is linear in bits; a move by zero bytes is a linear map without a kernel; sums of two parts join; a burst of up to 32 bits is seen. No program is named. Conditions: none. -/
namespace Go.Mir.Crc

def iter {α : Type} (f : α → α) : Nat → α → α
  | 0, x => x
  | n + 1, x => f (iter f n x)
theorem iter_add {α : Type} (f : α → α) (m n : Nat) (x : α) : iter f (m + n) x = iter f m (iter f n x) := by
  induction m with
  | zero => simp [iter]
  | succ m ih => rw [show m + 1 + n = (m + n) + 1 from by omega]; simp [iter, ih]
theorem iter_succ' {α : Type} (f : α → α) (n : Nat) (x : α) : iter f (n + 1) x = iter f n (f x) := iter_add f n 1 x

def poly : BitVec 32 := 2197175160#32
/-- a sum, moved by a bit -/
def step (x : BitVec 32) : BitVec 32 := (x >>> 1) ^^^ (if x.getLsbD 0 then poly else 0#32)

theorem xlc (a b c : BitVec 32) : a ^^^ (b ^^^ c) = b ^^^ (a ^^^ c) := by
  rw [← BitVec.xor_assoc, BitVec.xor_comm a b, BitVec.xor_assoc]
theorem step_xor (x y : BitVec 32) : step (x ^^^ y) = step x ^^^ step y := by
  unfold step
  rw [BitVec.ushiftRight_xor_distrib, BitVec.getLsbD_xor]
  generalize x.getLsbD 0 = a
  generalize y.getLsbD 0 = b
  cases a <;> cases b <;> simp [BitVec.xor_assoc]
  · rw [BitVec.xor_comm]
  · rw [xlc poly]; simp
theorem step_zero : step 0#32 = 0#32 := by decide
theorem iter_xor (n : Nat) (x y : BitVec 32) : iter step n (x ^^^ y) = iter step n x ^^^ iter step n y := by
  induction n with
  | zero => rfl
  | succ n ih => simp only [iter, ih, step_xor]
theorem iter_zero (n : Nat) : iter step n 0#32 = 0#32 := by
  induction n with
  | zero => rfl
  | succ n ih => simp only [iter, ih, step_zero]
theorem step_ne (x : BitVec 32) (h : step x = 0#32) : x = 0#32 := by
  have hb : ∀ i, (step x).getLsbD i = false := by intro i; rw [h]; simp
  cases hx : x.getLsbD 0 with
  | true =>
    have h31 := hb 31
    simp only [step, hx, if_true, BitVec.getLsbD_xor, BitVec.getLsbD_ushiftRight] at h31
    have h1 : x.getLsbD (1 + 31) = false := BitVec.getLsbD_of_ge x 32 (by omega)
    rw [h1] at h31
    exact absurd h31 (by decide)
  | false =>
    apply BitVec.eq_of_getLsbD_eq
    intro i hi
    cases i with
    | zero => simpa using hx
    | succ i =>
      have := hb i
      simp only [step, hx, Bool.false_eq_true, if_false, BitVec.getLsbD_xor, BitVec.getLsbD_ushiftRight] at this
      rw [show i + 1 = 1 + i from by omega]
      simpa using this
theorem iter_ne (n : Nat) (x : BitVec 32) (h : iter step n x = 0#32) : x = 0#32 := by
  induction n with
  | zero => exact h
  | succ n ih => exact ih (step_ne _ h)
theorem iter_inj0 (n : Nat) (x : BitVec 32) : iter step n x = 0#32 ↔ x = 0#32 := ⟨iter_ne n x, fun h => by rw [h, iter_zero]⟩
theorem xor_eq_zero {x y : BitVec 32} (h : x ^^^ y = 0#32) : x = y := by
  have := congrArg (· ^^^ y) h
  simpa [BitVec.xor_assoc] using this

/-- a byte as a word -/
def byteW (b : UInt8) : BitVec 32 := BitVec.ofNat 32 b.toNat
/-- goes on with a sum (not turned), byte by byte -/
def run (s : BitVec 32) (l : List UInt8) : BitVec 32 := l.foldl (fun s b => iter step 8 (s ^^^ byteW b)) s
theorem run_append (s : BitVec 32) (a b : List UInt8) : run s (a ++ b) = run (run s a) b := by simp [run]
theorem run_snoc (s : BitVec 32) (a : List UInt8) (b : UInt8) : run s (a ++ [b]) = iter step 8 (run s a ^^^ byteW b) := by simp [run]
theorem run_xor (l : List UInt8) : ∀ s t, run (s ^^^ t) l = run s l ^^^ iter step (8 * l.length) t := by
  induction l with
  | nil => intro s t; rfl
  | cons b l ih =>
    intro s t
    show run (iter step 8 ((s ^^^ t) ^^^ byteW b)) l = run (iter step 8 (s ^^^ byteW b)) l ^^^ _
    rw [show (s ^^^ t) ^^^ byteW b = (s ^^^ byteW b) ^^^ t from by rw [BitVec.xor_assoc, BitVec.xor_comm t, ← BitVec.xor_assoc], iter_xor, ih, ← iter_add]
    congr 2

def ones : BitVec 32 := 4294967295#32
def more (s : BitVec 32) (l : List UInt8) : BitVec 32 := run (s ^^^ ones) l ^^^ ones
theorem xx (a : BitVec 32) : a ^^^ ones ^^^ ones = a := by rw [BitVec.xor_assoc]; simp
theorem more_append (s : BitVec 32) (a b : List UInt8) : more s (a ++ b) = more (more s a) b := by
  simp only [more, run_append, xx]
theorem more_nil (s : BitVec 32) : more s [] = s := xx s
theorem more_join (s : BitVec 32) (b : List UInt8) : more s b = iter step (8 * b.length) s ^^^ more 0#32 b := by
  unfold more
  rw [BitVec.xor_comm s, run_xor]
  rw [show (0#32 ^^^ ones) = ones from by simp]
  rw [BitVec.xor_assoc, BitVec.xor_comm (iter _ _ _), ← BitVec.xor_assoc]
  rw [BitVec.xor_comm (_ ^^^ ones)]

/-! ### the table -/
def tab (i : Nat) : BitVec 32 := iter step 8 (BitVec.ofNat 32 i)
theorem step_even (x : BitVec 32) (h : x.getLsbD 0 = false) : step x = x >>> 1 := by rw [step, h]; simp
theorem iter_low (k : Nat) (x : BitVec 32) (h : ∀ i, i < k → x.getLsbD i = false) : iter step k x = x >>> k := by
  induction k with
  | zero => simp [iter]
  | succ k ih =>
    rw [iter, ih (fun i hi => h i (by omega)), step_even _ (by simp [h k (by omega)])]
    rw [← BitVec.shiftRight_add]
theorem split8 (s : BitVec 32) : s = ((s >>> 8) <<< 8) ^^^ (s &&& 255#32) := by
  apply BitVec.eq_of_getLsbD_eq
  intro i hi
  have h255 : (255#32).getLsbD i = decide (i < 8) := by
    have : ∀ i, i < 32 → (255#32).getLsbD i = decide (i < 8) := by decide
    exact this i hi
  simp only [BitVec.getLsbD_xor, BitVec.getLsbD_shiftLeft, BitVec.getLsbD_ushiftRight, BitVec.getLsbD_and, h255, hi, decide_true, Bool.true_and]
  by_cases h8 : i < 8
  · simp [h8]
  · simp [h8, show 8 + (i - 8) = i from by omega]
theorem byteW_toNat (b : UInt8) : (byteW b).toNat = b.toNat := by
  have := b.toNat_lt
  simp [byteW]
theorem tab_step (s : BitVec 32) (b : UInt8) : (s >>> 8) ^^^ tab ((s.toNat % 256) ^^^ b.toNat) = iter step 8 (s ^^^ byteW b) := by
  have e : BitVec.ofNat 32 ((s.toNat % 256) ^^^ b.toNat) = (s &&& 255#32) ^^^ byteW b := by
    apply BitVec.eq_of_toNat_eq
    have hx : (s.toNat % 256) ^^^ b.toNat < 2 ^ 8 := Nat.xor_lt_two_pow (by omega) b.toNat_lt
    rw [BitVec.toNat_xor, byteW_toNat, BitVec.toNat_and, BitVec.toNat_ofNat]
    rw [show (255#32).toNat = 2 ^ 8 - 1 from rfl, Nat.and_two_pow_sub_one_eq_mod]
    exact Nat.mod_eq_of_lt (by omega)
  unfold tab
  rw [e]
  conv => rhs; rw [split8 s, BitVec.xor_assoc, iter_xor]
  rw [iter_low 8 ((s >>> 8) <<< 8) (by intro i hi; simp [hi])]
  congr 1
  apply BitVec.eq_of_getLsbD_eq
  intro i hi
  simp only [BitVec.getLsbD_ushiftRight, BitVec.getLsbD_shiftLeft]
  by_cases h : 8 + i < 32
  · simp [h]
  · rw [BitVec.getLsbD_of_ge s (8 + i) (by omega)]; simp [h]

/-! ### matrices -/
def tm (m : Nat → BitVec 32) (s : BitVec 32) : Nat → BitVec 32
  | 0 => 0#32
  | k + 1 => tm m s k ^^^ (if s.getLsbD k then m k else 0#32)
def Lin (f : BitVec 32 → BitVec 32) : Prop := ∀ x y, f (x ^^^ y) = f x ^^^ f y
theorem Lin.zero {f : BitVec 32 → BitVec 32} (h : Lin f) : f 0#32 = 0#32 := by
  have := h 0#32 0#32
  simp only [BitVec.xor_self] at this
  exact this
theorem getLsbD_low (s : BitVec 32) (k i : Nat) : (s &&& BitVec.ofNat 32 (2 ^ k - 1)).getLsbD i = (s.getLsbD i && decide (i < k)) := by
  rw [BitVec.getLsbD_and]
  by_cases hi : i < 32
  · rw [BitVec.getLsbD_ofNat, Nat.testBit_two_pow_sub_one]; simp [hi]
  · simp [BitVec.getLsbD_of_ge s i (by omega)]
theorem low_succ (s : BitVec 32) (k : Nat) (hk : k < 32) : (s &&& BitVec.ofNat 32 (2 ^ (k + 1) - 1)) = (s &&& BitVec.ofNat 32 (2 ^ k - 1)) ^^^ (if s.getLsbD k then (1#32 <<< k) else 0#32) := by
  apply BitVec.eq_of_getLsbD_eq
  intro i hi
  rw [BitVec.getLsbD_xor, getLsbD_low, getLsbD_low]
  have h1 : (1#32 <<< k).getLsbD i = decide (i = k) := by
    simp [BitVec.getLsbD_shiftLeft, hi]
    by_cases h : i = k
    · subst h; simp
    · simp [h]; omega
  have h2 : (if s.getLsbD k = true then (1#32 <<< k) else 0#32).getLsbD i = (s.getLsbD k && decide (i = k)) := by
    cases s.getLsbD k <;> simp [h1]
  rw [h2]
  by_cases h : i = k
  · subst h; simp
  · have : (i < k + 1) ↔ (i < k) := by omega
    simp [h, this]
theorem tm_lin {f : BitVec 32 → BitVec 32} (hf : Lin f) (s : BitVec 32) : ∀ k, k ≤ 32 → tm (fun i => f (1#32 <<< i)) s k = f (s &&& BitVec.ofNat 32 (2 ^ k - 1)) := by
  intro k
  induction k with
  | zero => intro _; simp [tm, hf.zero]
  | succ k ih =>
    intro hk
    rw [low_succ s k (by omega), hf, tm, ih (by omega)]
    cases s.getLsbD k <;> simp [hf.zero]
theorem tm_all {f : BitVec 32 → BitVec 32} (hf : Lin f) (s : BitVec 32) : tm (fun i => f (1#32 <<< i)) s 32 = f s := by
  rw [tm_lin hf s 32 (by omega)]
  congr 1
  apply BitVec.eq_of_getLsbD_eq
  intro i hi
  rw [getLsbD_low]; simp [hi]
theorem lin_iter (n : Nat) : Lin (iter step n) := iter_xor n

/-! ### bits in a row -/
/-- goes on, bit by bit: bit j of a stream is 'f j' -/
def runF (s : BitVec 32) (f : Nat → Bool) : Nat → BitVec 32
  | 0 => s
  | n + 1 => step (runF s f n ^^^ (if f n then 1#32 else 0#32))
theorem runF_congr (s : BitVec 32) (f g : Nat → Bool) (n : Nat) (h : ∀ j, j < n → f j = g j) : runF s f n = runF s g n := by
  induction n with
  | zero => rfl
  | succ n ih => simp only [runF, ih (fun j hj => h j (by omega)), h n (by omega)]
theorem runF_add (s : BitVec 32) (f : Nat → Bool) (m n : Nat) : runF s f (m + n) = runF (runF s f m) (fun j => f (m + j)) n := by
  induction n with
  | zero => rfl
  | succ n ih => rw [show m + (n + 1) = (m + n) + 1 from by omega]; simp only [runF, ih]
theorem bit_xor (a b : Bool) : (if (a ^^ b) then 1#32 else 0#32) = (if a then 1#32 else 0#32) ^^^ (if b then 1#32 else 0#32) := by cases a <;> cases b <;> decide
theorem runF_xor (s t : BitVec 32) (f g : Nat → Bool) (n : Nat) : runF (s ^^^ t) (fun j => f j ^^ g j) n = runF s f n ^^^ runF t g n := by
  induction n with
  | zero => rfl
  | succ n ih =>
    simp only [runF, ih]
    rw [← step_xor]
    rw [bit_xor, BitVec.xor_assoc, BitVec.xor_assoc, xlc (runF t g n)]
theorem runF_zero (s : BitVec 32) (n : Nat) : runF s (fun _ => false) n = iter step n s := by
  induction n with
  | zero => rfl
  | succ n ih => simp only [runF, ih, iter]; simp
/-- the first n bits of a word: as if laid over the sum at once -/
theorem runF_word (s v : BitVec 32) : ∀ n, n ≤ 32 → runF s (fun j => v.getLsbD j) n = iter step n (s ^^^ (v &&& BitVec.ofNat 32 (2 ^ n - 1))) := by
  intro n
  induction n with
  | zero => intro _; simp [runF, iter]
  | succ n ih =>
    intro hn
    rw [low_succ v n (by omega), runF, ih (by omega), iter, ← BitVec.xor_assoc, iter_xor n (s ^^^ _)]
    congr 2
    cases v.getLsbD n with
    | false => simp [iter_zero]
    | true =>
      simp only [if_true]
      rw [iter_low n _ (by intro i hi; simp; omega)]
      apply BitVec.eq_of_getLsbD_eq
      intro i hi
      simp only [BitVec.getLsbD_ushiftRight, BitVec.getLsbD_shiftLeft, BitVec.getLsbD_one]
      by_cases h0 : i = 0
      · subst h0; simp; omega
      · have h1 : ¬ (n + i - n = 0) := by omega
        simp [h0, h1]
def bitAt (l : List UInt8) (j : Nat) : Bool := (l.getD (j / 8) 0).toNat.testBit (j % 8)
theorem run_bits (l : List UInt8) : ∀ s, run s l = runF s (bitAt l) (8 * l.length) := by
  induction l with
  | nil => intro s; rfl
  | cons b l ih =>
    intro s
    show run (iter step 8 (s ^^^ byteW b)) l = _
    rw [ih, show 8 * (b :: l).length = 8 + 8 * l.length from by simp; omega, runF_add]
    have h8 : runF s (bitAt (b :: l)) 8 = iter step 8 (s ^^^ byteW b) := by
      rw [runF_congr s (bitAt (b :: l)) (fun j => (byteW b).getLsbD j) 8]
      · rw [runF_word s _ 8 (by omega)]
        congr 2
        apply BitVec.eq_of_getLsbD_eq
        intro i hi
        rw [getLsbD_low]
        by_cases h : i < 8
        · simp [h]
        · have hb : (byteW b).toNat < 2 ^ i := by
            rw [byteW_toNat]
            exact Nat.lt_of_lt_of_le b.toNat_lt (Nat.pow_le_pow_right (by omega) (by omega))
          simp [BitVec.getLsbD, Nat.testBit_lt_two_pow hb]
      · intro j hj
        simp only [bitAt, show j / 8 = 0 from by omega, show j % 8 = j from by omega, BitVec.getLsbD, byteW_toNat]
        rfl
    rw [h8]
    apply runF_congr
    intro j hj
    simp only [bitAt]
    rw [show (8 + j) / 8 = j / 8 + 1 from by omega, show (8 + j) % 8 = j % 8 from by omega]
    simp
/-- A BURST: the same bytes but for the bits of 'v' laid over from bit 'at' on: another sum -/
theorem burst (l m : List UInt8) (hl : l.length = m.length) (at_ : Nat) (v : BitVec 32) (hv : v ≠ 0#32) (hat : at_ + 32 ≤ 8 * l.length)
    (h : ∀ j, j < 8 * l.length → bitAt m j = (bitAt l j ^^ (decide (at_ ≤ j) && v.getLsbD (j - at_)))) (s : BitVec 32) : run s m ≠ run s l := by
  intro he
  rw [run_bits, run_bits, ← hl, runF_congr s _ _ _ h] at he
  have := runF_xor s 0#32 (bitAt l) (fun j => decide (at_ ≤ j) && v.getLsbD (j - at_)) (8 * l.length)
  rw [BitVec.xor_zero, he] at this
  have hz : runF 0#32 (fun j => decide (at_ ≤ j) && v.getLsbD (j - at_)) (8 * l.length) = 0#32 := by
    have h2 := congrArg (runF s (bitAt l) (8 * l.length) ^^^ ·) this
    simp only [BitVec.xor_self, ← BitVec.xor_assoc, BitVec.zero_xor] at h2
    exact h2.symm
  obtain ⟨r, hr⟩ : ∃ r, 8 * l.length = at_ + (32 + r) := ⟨8 * l.length - at_ - 32, by omega⟩
  rw [hr, runF_add, runF_add] at hz
  rw [runF_congr 0#32 _ (fun _ => false) at_ (by intro j hj; simp; omega), runF_zero, iter_zero] at hz
  rw [runF_congr 0#32 _ (fun j => v.getLsbD j) 32 (by intro j hj; simp), runF_word _ _ 32 (by omega)] at hz
  rw [runF_congr _ _ (fun _ => false) r (by intro j hj; simp only [Nat.le_add_right, decide_true, Bool.true_and]; exact BitVec.getLsbD_of_ge v _ (by omega)), runF_zero] at hz
  have h3 := iter_ne 32 _ (iter_ne r _ hz)
  rw [BitVec.zero_xor] at h3
  apply hv
  rw [← h3]
  apply BitVec.eq_of_getLsbD_eq
  intro i hi
  rw [getLsbD_low]; simp [hi]
end Go.Mir.Crc
