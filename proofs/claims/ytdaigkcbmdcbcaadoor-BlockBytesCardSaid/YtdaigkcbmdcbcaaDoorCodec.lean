/- CODECS: what is written by a writer, what a reader reads of it: plain parts, and both as they go on. Conditions: sizes that fit. -/
import Derived.Test.YtdaigkcbmdcbcaaDoorWriter3
import Derived.Test.YtdaigkcbmdcbcaaDoorRdNum
namespace Go.Proofs.YtdaigkcbmdcbcaaDoor.Cod
open Go.RowKit Go.Mir Go.Mir.Parts Wr

theorem take_in {l : List UInt8} {pos m : Nat} (h : pos + m ≤ l.length) : Rdr.RD.takeB ⟨l, pos, none⟩ (m : Int) true = (l.drop pos).take m ∧ Rdr.RD.takeS ⟨l, pos, none⟩ (m : Int) true = ⟨l, pos + m, none⟩ := by
  constructor
  · unfold Rdr.RD.takeB
    rw [if_pos ⟨rfl, rfl, by omega, by dsimp only; omega⟩]
    rfl
  · unfold Rdr.RD.takeS
    rw [if_neg (by simp), if_neg (by rintro (h | h); (· cases h); (· omega)), if_neg (by dsimp only; omega)]
    rfl
/-! ### plain: what is written -/
def Inv2 (R : Nat) (E l : List UInt8) (bad : Int) : Prop := l.length ≤ R ∧ ((bad = 0 ∧ l = E) ∨ (bad = 3 ∧ R < E.length))
theorem Inv2.nil (R : Nat) : Inv2 R [] [] 0 := ⟨by simp, .inl ⟨rfl, rfl⟩⟩
theorem Inv2.put {R : Nat} {E l : List UInt8} {bad : Int} (h : Inv2 R E l bad) (ps : List (List UInt8)) : Inv2 R (E ++ ps.flatten) (putS R l bad true ps).1 (putS R l bad true ps).2 := by
  obtain ⟨h1, h2⟩ := h
  unfold putS
  rw [← total_flatten]
  rcases h2 with ⟨rfl, rfl⟩ | ⟨rfl, h2⟩
  · rw [if_pos rfl, if_pos rfl]
    by_cases ht : ps.flatten.length ≤ R - l.length
    · rw [if_pos ht]
      exact ⟨by rw [List.length_append]; omega, .inl ⟨rfl, rfl⟩⟩
    · rw [if_neg ht]
      exact ⟨h1, .inr ⟨rfl, by rw [List.length_append]; omega⟩⟩
  · rw [if_neg (by decide)]
    exact ⟨h1, .inr ⟨rfl, by rw [List.length_append]; omega⟩⟩
theorem Inv2.one {R : Nat} {E l : List UInt8} {bad : Int} (h : Inv2 R E l bad) (b : List UInt8) : Inv2 R (E ++ b) (putS R l bad true [b]).1 (putS R l bad true [b]).2 := by
  have := h.put [b]
  simpa using this
theorem Inv2.num {R : Nat} {E l : List UInt8} {bad : Int} (h : Inv2 R E l bad) (n k : Nat) (h1 : 1 ≤ k) (h8 : k ≤ 8) (hn : n < 2 ^ (8 * k)) : Inv2 R (E ++ be n k) (numS R l bad n (k : Int)).1 (numS R l bad n (k : Int)).2 := by
  unfold numS
  rw [if_pos ⟨by omega, by omega, .inr (by simpa using hn)⟩]
  exact h.one _
theorem flat32 : ∀ (ids : List (List UInt8)), (∀ x ∈ ids, x.length = 32) → ids.flatten.length = 32 * ids.length
  | [], _ => rfl
  | x :: r, h => by
    have h1 := h x (by simp)
    have h2 := flat32 r (fun y hy => h y (by simp [hy]))
    simp only [List.flatten_cons, List.length_append, List.length_cons]; omega
/-! ### plain: what is read -/
theorem take_rest {E x r : List UInt8} {pos : Nat} (hp : pos ≤ E.length) (h : E.drop pos = x ++ r) :
    Rdr.RD.takeB ⟨E, pos, none⟩ (x.length : Int) true = x ∧ Rdr.RD.takeS ⟨E, pos, none⟩ (x.length : Int) true = ⟨E, pos + x.length, none⟩ ∧ E.drop (pos + x.length) = r ∧ pos + x.length ≤ E.length := by
  have hl := congrArg List.length h
  rw [List.length_drop, List.length_append] at hl
  have hle : pos + x.length ≤ E.length := by omega
  obtain ⟨h1, h2⟩ := take_in hle
  refine ⟨by rw [h1, h, List.take_left], h2, by rw [← List.drop_drop, h, List.drop_left], hle⟩
theorem be_numB (n k : Nat) (hk : k ≤ 8) : be n k = Rdr.numB n k := by
  apply List.ext_getElem?
  intro j
  by_cases hj : j < k
  · rw [Rdr.numB_at n k j hj]
    unfold be nb
    rw [List.getElem?_map, List.getElem?_range hj]
    simp only [Option.map_some]
    rw [show 7 - (8 - k + j) = k - 1 - j by omega, Nat.pow_mul]
  · rw [List.getElem?_eq_none (by rw [be_length]; omega), List.getElem?_eq_none (by rw [Rdr.numB_len]; omega)]
theorem num_rest {E r : List UInt8} {pos n k : Nat} (hp : pos ≤ E.length) (h : E.drop pos = be n k ++ r) (h1 : 1 ≤ k) (h8 : k ≤ 8) (hn : n < 256 ^ k) :
    Rdr.RD.numV ⟨E, pos, none⟩ (k : Int) = n ∧ Rdr.RD.numS ⟨E, pos, none⟩ (k : Int) = ⟨E, pos + k, none⟩ ∧ E.drop (pos + k) = r ∧ pos + k ≤ E.length := by
  obtain ⟨a, b, c, d⟩ := take_rest hp h
  rw [be_length] at a b c d
  have hf : Rdr.fitsW (k : Int) = true := by unfold Rdr.fitsW; rw [decide_eq_true (by omega), decide_eq_true (by omega)]; rfl
  refine ⟨?_, ?_, c, d⟩
  · unfold Rdr.RD.numV
    rw [hf, a, be_numB _ _ h8, Rdr.beN_numB, Nat.mod_eq_of_lt hn]
  · unfold Rdr.RD.numS
    rw [hf, b]
theorem cnt_rest {E r : List UInt8} {pos n k m : Nat} (hp : pos ≤ E.length) (h : E.drop pos = be n k ++ r) (h1 : 1 ≤ k) (h8 : k ≤ 8) (hn : n < 256 ^ k) (hm : n ≤ m) :
    Rdr.RD.cntV ⟨E, pos, none⟩ (k : Int) (m : Int) = n ∧ Rdr.RD.cntS ⟨E, pos, none⟩ (k : Int) (m : Int) = ⟨E, pos + k, none⟩ ∧ E.drop (pos + k) = r ∧ pos + k ≤ E.length := by
  obtain ⟨a, b, c, d⟩ := num_rest hp h h1 h8 hn
  have hS : Rdr.RD.cntS ⟨E, pos, none⟩ (k : Int) (m : Int) = ⟨E, pos + k, none⟩ := by
    unfold Rdr.RD.cntS
    rw [a, if_neg (by omega), b]
  refine ⟨?_, hS, c, d⟩
  unfold Rdr.RD.cntV
  rw [hS, if_pos rfl, a]
/-- a row of ids, one behind the other -/
def chunks (L : List UInt8) (k : Nat) : List (List UInt8) := (List.range k).map fun i => (L.drop (32 * i)).take 32
theorem chunks_flat (L : List UInt8) : ∀ k, (chunks L k).flatMap bytesV = bytesV (L.take (32 * k))
  | 0 => rfl
  | k + 1 => by
    have ih := chunks_flat L k
    unfold chunks at ih ⊢
    rw [List.range_succ, List.map_append, List.flatMap_append, ih, Nat.mul_add, List.take_add, bytesV_append]
    simp
theorem is_chunks {w : World} {base : Nat} {p : Option Addr} {k c : Nat} {L : List UInt8} (h : w.ownsRow base 23 32 (.slice p k c) k (bytesV L)) (hl : L.length = 32 * k) : Is w p k c 32 (chunks L k) := by
  obtain ⟨p', c', he, hs⟩ := own_sl h
  cases he
  refine ⟨by rw [chunks_flat, List.take_of_length_le (by omega)]; exact hs, fun x hx => ?_, by simp [chunks]⟩
  simp only [chunks, List.mem_map, List.mem_range] at hx
  obtain ⟨i, hi, rfl⟩ := hx
  rw [List.length_take, List.length_drop]
  omega
theorem chunks_of : ∀ (ids : List (List UInt8)), (∀ x ∈ ids, x.length = 32) → chunks ids.flatten ids.length = ids
  | [], _ => rfl
  | x :: r, h => by
    have hx := h x (by simp)
    have ih := chunks_of r (fun y hy => h y (by simp [hy]))
    unfold chunks at ih ⊢
    rw [List.length_cons, List.range_succ_eq_map, List.map_cons, List.map_map, List.flatten_cons]
    congr 1
    · rw [Nat.mul_zero, List.drop_zero, ← hx, List.take_left]
    · rw [← ih]
      simp only [ih]
      refine Eq.trans (List.map_congr_left fun i _ => ?_) ih
      show ((x ++ r.flatten).drop (32 * (i + 1))).take 32 = _
      rw [show 32 * (i + 1) = x.length + 32 * i by rw [hx]; omega, ← List.drop_drop, List.drop_left]

theorem numB_beN : ∀ (l : List UInt8), Rdr.numB (Rdr.beN l) l.length = l
  | [] => rfl
  | b :: l => by
    have h1 : Rdr.beN (b :: l) = b.toNat * 256 ^ l.length + Rdr.beN l := by
      show List.foldl _ (256 * 0 + b.toNat) l = _
      rw [Rdr.beN_fold]; simp
    have h2 := Rdr.beN_lt_pow l
    have h3 : Rdr.beN (b :: l) / 256 ^ l.length = b.toNat := by
      rw [h1, Nat.add_comm, Nat.mul_comm, Nat.add_mul_div_left _ _ (Nat.pow_pos (by omega)), Nat.div_eq_of_lt h2, Nat.zero_add]
    have h4 : ∀ (k n m : Nat), m < 256 ^ k → Rdr.numB (n * 256 ^ k + m) k = Rdr.numB m k := fun k n m hm => by
      apply List.ext_getElem?
      intro j
      by_cases hj : j < k
      · rw [Rdr.numB_at _ _ _ hj, Rdr.numB_at _ _ _ hj]
        congr 1
        have e : 256 ^ k = 256 ^ (k - 1 - j) * 256 ^ (j + 1) := by rw [← Nat.pow_add]; congr 1; omega
        have e2 : (n * 256 ^ k + m) / 256 ^ (k - 1 - j) = n * 256 ^ (j + 1) + m / 256 ^ (k - 1 - j) := by
          rw [e, show n * (256 ^ (k - 1 - j) * 256 ^ (j + 1)) = 256 ^ (k - 1 - j) * (n * 256 ^ (j + 1)) by rw [Nat.mul_left_comm], Nat.add_comm, Nat.add_mul_div_left _ _ (Nat.pow_pos (by omega)), Nat.add_comm]
        rw [e2]
        apply UInt8.toNat_inj.1
        rw [UInt8.toNat_ofNat', UInt8.toNat_ofNat', Nat.pow_succ, ← Nat.mul_assoc]
        omega
      · rw [List.getElem?_eq_none (by rw [Rdr.numB_len]; omega), List.getElem?_eq_none (by rw [Rdr.numB_len]; omega)]
    show UInt8.ofNat (Rdr.beN (b :: l) / 256 ^ l.length) :: Rdr.numB (Rdr.beN (b :: l)) l.length = b :: l
    rw [h3, h1, h4 _ _ _ h2, numB_beN l]
    simp
theorem be_beN (l : List UInt8) (k : Nat) (hl : l.length = k) (hk : k ≤ 8) : be (Rdr.beN l) k = l := by
  rw [be_numB _ _ hk]
  subst hl
  exact numB_beN l
theorem beN_be (n k : Nat) (hk : k ≤ 8) (hn : n < 256 ^ k) : Rdr.beN (be n k) = n := by
  rw [be_numB _ _ hk, Rdr.beN_numB, Nat.mod_eq_of_lt hn]
/-! ### a writer as it goes on -/
structure WS (w : World) (wb : Nat) (R : Nat) (E : List UInt8) (x : World) : Prop where
  all : ∃ v l bad, WAt x wb v R l bad ∧ Inv2 R E l bad ∧ (∀ i, foot wb v i → w.heap.size ≤ i) ∧ Below w.heap.size w x
theorem WS.low {w x : World} {wb R : Nat} {E : List UInt8} (h : WS w wb R E x) : Below w.heap.size w x := by
  obtain ⟨_, _, _, _, _, _, h4⟩ := h.all
  exact h4
theorem WS.step {w x y : World} {wb R : Nat} {v : Value} {r : List UInt8 × Int} {E' : List UInt8} (h3 : ∀ i, foot wb v i → w.heap.size ≤ i) (h4 : Below w.heap.size w x) (hl : Wr.Left wb v R r x y) (hi : Inv2 R E' r.1 r.2) : WS w wb R E' y := by
  obtain ⟨v', h1, h2, h5⟩ := hl
  refine ⟨v', _, _, h1, hi, fun i hi' => ?_, h4.trans (h2.below h4.size h3)⟩
  rcases hi' with rfl | hi'
  · exact h3 _ (.inl rfl)
  · rcases Nat.lt_or_ge i x.heap.size with h6 | h6
    · exact h3 _ (.inr (h5 i hi' h6))
    · have := h4.size; omega
theorem WS.turn {w x y : World} {wb : Nat} {v : Value} (h3 : ∀ i, foot wb v i → w.heap.size ≤ i) (h4 : Below w.heap.size w x) (ht : Turns (foot wb v) x y) : Below w.heap.size w y := h4.trans (ht.below h4.size h3)
theorem ws_new (w x : World) (hx : Below w.heap.size w x) (R : Nat) (hR : R ≤ 1000000) :
    Calls Tryd.prog 29 #[.int .i64 (R : Int)] x fun e y => e = .returned (.pointer (some ⟨x.heap.size, 0, none⟩)) ∧ WS w x.heap.size R [] y ∧ Below x.heap.size x y := by
  refine (Wr.new_any (R : Int) x (by omega)).mono ?_
  rintro e y ⟨rfl, hw, hb⟩
  rw [Int.toNat_natCast] at hw
  refine ⟨rfl, ⟨_, _, _, hw, Inv2.nil R, fun i hi => ?_, hx.trans (hb.mono hx.size)⟩, hb⟩
  rcases hi with rfl | hi
  · exact hx.size
  · simp [Value.ownBlock] at hi
theorem ws_num {w x : World} {wb R : Nat} {E : List UInt8} (h : WS w wb R E x) (hR : R ≤ 1000000) (n k : Nat) (h1 : 1 ≤ k) (h8 : k ≤ 8) (hn : n < 2 ^ (8 * k)) (hn2 : n < 18446744073709551616) :
    Calls Tryd.prog 31 #[.pointer (some ⟨wb, 0, none⟩), .int .u64 (n : Int), .int .i64 (k : Int)] x fun e y => e = .returned (.tuple #[]) ∧ WS w wb R (E ++ be n k) y := by
  obtain ⟨v, l, bad, ha, hv, h3, h4⟩ := h.all
  refine (Wr.num_any n k wb v R l bad x ha hn2 (by omega) (by omega) (by have := hv.1; omega)).mono ?_
  rintro e y ⟨rfl, hl⟩
  exact ⟨rfl, WS.step h3 h4 hl (hv.num n k h1 h8 hn)⟩
theorem ws_bytes {w x : World} {wb R : Nat} {E : List UInt8} (h : WS w wb R E x) (hR : R ≤ 1000000) (p : Option Addr) (n c : Nat) (b : List UInt8) (hB : Bs w p n c b) (hb : b.length ≤ 70368744177664) :
    Calls Tryd.prog 43 #[.pointer (some ⟨wb, 0, none⟩), .slice p n c] x fun e y => e = .returned (.tuple #[]) ∧ WS w wb R (E ++ b) y := by
  obtain ⟨v, l, bad, ha, hv, h3, h4⟩ := h.all
  refine (Wr.bytes_any p n c b wb v R l bad x ha (fun w' ht => hB.below (WS.turn h3 h4 ht)) hb (by have := hv.1; omega)).mono ?_
  rintro e y ⟨rfl, hl⟩
  exact ⟨rfl, WS.step h3 h4 hl (hv.one b)⟩
theorem ws_id {w x : World} {wb R : Nat} {E : List UInt8} (h : WS w wb R E x) (hR : R ≤ 1000000) (b : List UInt8) (hb : b.length = 32) :
    Calls Tryd.prog 30 #[.pointer (some ⟨wb, 0, none⟩), .agg (idA b)] x fun e y => e = .returned (.tuple #[]) ∧ WS w wb R (E ++ b) y := by
  obtain ⟨v, l, bad, ha, hv, h3, h4⟩ := h.all
  refine (Wr.id_any (idA b) b (idA_toList b) hb wb v R l bad x ha (by have := hv.1; omega)).mono ?_
  rintro e y ⟨rfl, hl⟩
  exact ⟨rfl, WS.step h3 h4 hl (hv.one b)⟩
theorem ws_hint {w x : World} {wb R : Nat} {E : List UInt8} (h : WS w wb R E x) (hR : R ≤ 1000000) (b : List UInt8) (hb : b.length = 16) :
    Calls Tryd.prog 42 #[.pointer (some ⟨wb, 0, none⟩), .agg (idA b)] x fun e y => e = .returned (.tuple #[]) ∧ WS w wb R (E ++ b) y := by
  obtain ⟨v, l, bad, ha, hv, h3, h4⟩ := h.all
  refine (Wr.hint_any (idA b) b (idA_toList b) hb wb v R l bad x ha (by have := hv.1; omega)).mono ?_
  rintro e y ⟨rfl, hl⟩
  exact ⟨rfl, WS.step h3 h4 hl (hv.one b)⟩
theorem ws_ids {w x : World} {wb R : Nat} {E : List UInt8} (h : WS w wb R E x) (hR : R ≤ 1000000) (p : Option Addr) (n c : Nat) (ids : List (List UInt8)) (hI : Is w p n c 32 ids) (hn : n ≤ 1099511627776) :
    Calls Tryd.prog 32 #[.pointer (some ⟨wb, 0, none⟩), .slice p n c] x fun e y => e = .returned (.tuple #[]) ∧ WS w wb R (E ++ ids.flatten) y := by
  obtain ⟨v, l, bad, ha, hv, h3, h4⟩ := h.all
  refine (Wr.ids_any p n c ids wb v R l bad x ha (fun w' ht => hI.below (WS.turn h3 h4 ht)) hn (by have := hv.1; omega)).mono ?_
  rintro e y ⟨rfl, hl⟩
  exact ⟨rfl, WS.step h3 h4 hl (hv.put ids)⟩
/-- where all fits -/
theorem ws_done {w x : World} {wb R : Nat} {E : List UInt8} (h : WS w wb R E x) (hR : R ≤ 1000000) (hE : E.length ≤ R) :
    Calls Tryd.prog 33 #[.pointer (some ⟨wb, 0, none⟩)] x fun e y => (∃ p c, e = .returned (.tuple #[.slice p E.length c, .int .i64 0]) ∧ y.ownsRow x.heap.size 5 1 (.slice p E.length c) E.length (bytesV E)) ∧ WS w wb R E y ∧ Below x.heap.size x y := by
  obtain ⟨v, l, bad, ha, hv, h3, h4⟩ := h.all
  refine (Wr.done_any wb v R l bad x ha (by have := hv.1; omega)).mono ?_
  rintro e y ⟨⟨p, n, c, rfl, ho⟩, hb⟩
  rcases hv.2 with ⟨rfl, rfl⟩ | ⟨_, h'⟩
  · rw [if_pos rfl] at ho
    obtain ⟨p', c', he, hs⟩ := own_sl ho
    cases he
    have hn := Bs.length (show Bs y p n c l from hs)
    subst hn
    exact ⟨⟨p, c, rfl, ho⟩, ⟨v, l, 0, ha.touch (Turns.of_below (S := fun _ => False) hb) (fun _ _ h => h), hv, h3, h4.trans (hb.mono h4.size)⟩, hb⟩
  · omega
/-! ### a reader as it goes on -/
theorem rd_num {base rb : Nat} {E r : List UInt8} {pos n k : Nat} (w : World) (h : Rdr.RAt w base rb ⟨E, pos, none⟩) (hd : E.drop pos = be n k ++ r) (h1 : 1 ≤ k) (h8 : k ≤ 8) (hn : n < 256 ^ k) :
    Calls Tryd.prog 47 #[.pointer (some ⟨rb, 0, none⟩), .int .i64 (k : Int)] w fun e w' => e = .returned (.int .u64 (n : Int)) ∧ Rdr.LeftR base rb ⟨E, pos + k, none⟩ w w' := by
  obtain ⟨a, b, _, _⟩ := num_rest (by obtain ⟨v, bv, h'⟩ := h; exact h'.at1) hd h1 h8 hn
  refine (Rdr.num_any w h (k : Int) (by omega)).mono ?_
  rintro e w' ⟨rfl, hl⟩
  rw [b] at hl
  exact ⟨by rw [a], hl⟩
theorem rd_cnt {base rb : Nat} {E r : List UInt8} {pos n k m : Nat} (w : World) (h : Rdr.RAt w base rb ⟨E, pos, none⟩) (hd : E.drop pos = be n k ++ r) (h1 : 1 ≤ k) (h8 : k ≤ 8) (hn : n < 256 ^ k) (hm : n ≤ m) (hm2 : m ≤ 1000000) :
    Calls Tryd.prog 38 #[.pointer (some ⟨rb, 0, none⟩), .int .i64 (k : Int), .int .i64 (m : Int)] w fun e w' => e = .returned (.int .i64 (n : Int)) ∧ Rdr.LeftR base rb ⟨E, pos + k, none⟩ w w' := by
  obtain ⟨a, b, _, _⟩ := cnt_rest (by obtain ⟨v, bv, h'⟩ := h; exact h'.at1) hd h1 h8 hn hm
  refine (Rdr.count_any w h (k : Int) (by omega) (m : Int) (by omega)).mono ?_
  rintro e w' ⟨rfl, hl⟩
  rw [b] at hl
  exact ⟨by rw [a], hl⟩
theorem rd_id {base rb : Nat} {E x r : List UInt8} {pos : Nat} (w : World) (h : Rdr.RAt w base rb ⟨E, pos, none⟩) (hd : E.drop pos = x ++ r) (hx : x.length = 32) :
    Calls Tryd.prog 36 #[.pointer (some ⟨rb, 0, none⟩)] w fun e w' => e = .returned (.agg (idA x)) ∧ Rdr.LeftR base rb ⟨E, pos + 32, none⟩ w w' := by
  obtain ⟨a, b, _, _⟩ := take_rest (by obtain ⟨v, bv, h'⟩ := h; exact h'.at1) hd
  rw [hx] at a b
  refine (Rdr.id_any w h).mono ?_
  rintro e w' ⟨rfl, hl⟩
  rw [b] at hl
  refine ⟨?_, hl⟩
  unfold Rdr.RD.idV
  rw [a, hx]
  simp
theorem rd_bytes {base rb : Nat} {E x r : List UInt8} {pos : Nat} (w : World) (h : Rdr.RAt w base rb ⟨E, pos, none⟩) (hd : E.drop pos = x ++ r) (hx : x.length ≤ 1000000) :
    Calls Tryd.prog 62 #[.pointer (some ⟨rb, 0, none⟩), .int .i64 (x.length : Int)] w fun e w' => ∃ p c, e = .returned (.slice p x.length c) ∧ w'.ownsRow w.heap.size 5 1 (.slice p x.length c) x.length (bytesV x) ∧ Rdr.LeftR base rb ⟨E, pos + x.length, none⟩ w w' := by
  obtain ⟨a, b, _, _⟩ := take_rest (by obtain ⟨v, bv, h'⟩ := h; exact h'.at1) hd
  refine (Rdr.bytes_any w h (x.length : Int) (by omega)).mono ?_
  rintro e w' ⟨p, c, he, ho, hl⟩
  rw [a] at he ho
  rw [b] at hl
  exact ⟨p, c, he, ho, hl⟩
theorem rd_ids {base rb : Nat} {E r : List UInt8} {ids : List (List UInt8)} {pos : Nat} (w : World) (h : Rdr.RAt w base rb ⟨E, pos, none⟩) (hd : E.drop pos = ids.flatten ++ r) (hI : ∀ x ∈ ids, x.length = 32) (hx : ids.length ≤ 1000000) :
    Calls Tryd.prog 37 #[.pointer (some ⟨rb, 0, none⟩), .int .i64 (ids.length : Int)] w fun e w' => ∃ p c, e = .returned (.slice p ids.length c) ∧ Is w' p ids.length c 32 ids ∧ Rdr.LeftR base rb ⟨E, pos + ids.flatten.length, none⟩ w w' := by
  obtain ⟨a, b, _, _⟩ := take_rest (by obtain ⟨v, bv, h'⟩ := h; exact h'.at1) hd
  have hf := flat32 ids hI
  have hc : (ids.flatten.length : Int) = 32 * (ids.length : Int) := by rw [hf]; omega
  rw [hc] at a b
  refine (Rdr.ids_any w h (ids.length : Int) (by omega)).mono ?_
  rintro e w' ⟨p, k, c, hk, he, ho, hl⟩
  rw [a] at hk ho
  rw [b] at hl
  obtain rfl : k = ids.length := by omega
  refine ⟨p, c, he, ?_, hl⟩
  have := is_chunks ho hk
  rw [chunks_of ids hI] at this
  exact this
end Go.Proofs.YtdaigkcbmdcbcaaDoor.Cod
