/- LAYER 10: there and back, the plain part, and what the loops keep. Conditions: sizes that fit. -/
import Derived.Test.YtbfddfmglkhimaaDoorW10Small
import Derived.Test.YtbfddfmglkhimaaDoorRdOrder
import Derived.Test.YtbfddfmglkhimaaDoorSame
namespace Go.Proofs.YtbfddfmglkhimaaDoor.W10R
open Go.RowKit Go.Mir Go.Mir.Parts Wr W10

/-! ### plain: what is written -/
def Inv2 (R : Nat) (E l : List UInt8) (bad : Int) : Prop := l.length ≤ R ∧ ((bad = 0 ∧ l = E) ∨ (bad = 3 ∧ R < E.length))
theorem Inv2.nil (R : Nat) : Inv2 R [] [] 0 := ⟨by simp, .inl ⟨rfl, rfl⟩⟩
theorem Inv2.put {R : Nat} {E l : List UInt8} {bad : Int} (h : Inv2 R E l bad) (ps : List (List UInt8)) : Inv2 R (E ++ ps.flatten) (putS R l bad true ps).1 (putS R l bad true ps).2 := by
  obtain ⟨h1, h2⟩ := h
  unfold putS
  rw [← total_flatten]
  rcases h2 with ⟨rfl, rfl⟩ | ⟨rfl, h2⟩
  · rw [if_pos rfl, if_pos rfl]
    by_cases ht : ps.flatten.length ≤ R - l.length
    · rw [if_pos ht]
      exact ⟨by rw [List.length_append]; omega, .inl ⟨rfl, rfl⟩⟩
    · rw [if_neg ht]
      exact ⟨h1, .inr ⟨rfl, by rw [List.length_append]; omega⟩⟩
  · rw [if_neg (by decide)]
    exact ⟨h1, .inr ⟨rfl, by rw [List.length_append]; omega⟩⟩
theorem Inv2.one {R : Nat} {E l : List UInt8} {bad : Int} (h : Inv2 R E l bad) (b : List UInt8) : Inv2 R (E ++ b) (putS R l bad true [b]).1 (putS R l bad true [b]).2 := by
  have := h.put [b]
  simpa using this
theorem Inv2.num {R : Nat} {E l : List UInt8} {bad : Int} (h : Inv2 R E l bad) (n k : Nat) (h1 : 1 ≤ k) (h8 : k ≤ 8) (hn : n < 2 ^ (8 * k)) : Inv2 R (E ++ be n k) (numS R l bad n (k : Int)).1 (numS R l bad n (k : Int)).2 := by
  unfold numS
  rw [if_pos ⟨by omega, by omega, .inr (by simpa using hn)⟩]
  exact h.one _
def encOp (o : OpD) : List UInt8 := be o.n 8 ++ (o.id ++ (be o.b.length 4 ++ (o.b ++ (be o.ids.length 2 ++ o.ids.flatten))))
def enc (L : List (List Value × OpD)) : List UInt8 := L.flatMap fun x => encOp x.2
theorem enc_succ (L : List (List Value × OpD)) (k : Nat) (h : k < L.length) : enc (L.take (k + 1)) = enc (L.take k) ++ encOp L[k].2 := by
  unfold enc
  rw [List.take_succ_eq_append_getElem h, List.flatMap_append]
  simp
theorem enc_drop (L : List (List Value × OpD)) (k : Nat) (h : k < L.length) : (enc L).drop (enc (L.take k)).length = encOp L[k].2 ++ enc (L.drop (k + 1)) := by
  have h1 : enc L = enc (L.take k) ++ (encOp L[k].2 ++ enc (L.drop (k + 1))) := by
    unfold enc
    rw [← List.append_assoc]
    have h2 := enc_succ L k h
    unfold enc at h2
    rw [← h2, ← List.flatMap_append, List.take_append_drop]
  rw [h1, List.drop_left]
theorem flat32 : ∀ (ids : List (List UInt8)), (∀ x ∈ ids, x.length = 32) → ids.flatten.length = 32 * ids.length
  | [], _ => rfl
  | x :: r, h => by
    have h1 := h x (by simp)
    have h2 := flat32 r (fun y hy => h y (by simp [hy]))
    simp only [List.flatten_cons, List.length_append, List.length_cons]; omega
theorem encOp_len (o : OpD) (hid : o.id.length = 32) (hI : ∀ x ∈ o.ids, x.length = 32) : (encOp o).length = 46 + o.weight := by
  unfold encOp OpD.weight
  simp only [List.length_append, be_length, flat32 _ hI, hid]
  omega
theorem enc_len : ∀ (L : List (List Value × OpD)), (∀ x ∈ L, x.2.id.length = 32 ∧ ∀ y ∈ x.2.ids, y.length = 32) → (enc L).length = 46 * L.length + weights L
  | [], _ => rfl
  | x :: L, h => by
    have ih := enc_len L (fun y hy => h y (by simp [hy]))
    have h1 := encOp_len x.2 (h x (by simp)).1 (h x (by simp)).2
    have h2 : enc (x :: L) = encOp x.2 ++ enc L := rfl
    have h3 : weights (x :: L) = x.2.weight + weights L := rfl
    rw [h2, List.length_append, ih, h1, h3, List.length_cons]
    omega
/-! ### plain: what is read -/
theorem take_rest {E x r : List UInt8} {pos : Nat} (hp : pos ≤ E.length) (h : E.drop pos = x ++ r) :
    Rdr.RD.takeB ⟨E, pos, none⟩ (x.length : Int) true = x ∧ Rdr.RD.takeS ⟨E, pos, none⟩ (x.length : Int) true = ⟨E, pos + x.length, none⟩ ∧ E.drop (pos + x.length) = r ∧ pos + x.length ≤ E.length := by
  have hl := congrArg List.length h
  rw [List.length_drop, List.length_append] at hl
  have hle : pos + x.length ≤ E.length := by omega
  obtain ⟨h1, h2⟩ := Rdr.take_in hle
  refine ⟨by rw [h1, h, List.take_left], h2, by rw [← List.drop_drop, h, List.drop_left], hle⟩
theorem be_numB (n k : Nat) (hk : k ≤ 8) : be n k = Rdr.numB n k := by
  apply List.ext_getElem?
  intro j
  by_cases hj : j < k
  · rw [Rdr.numB_at n k j hj]
    unfold be nb
    rw [List.getElem?_map, List.getElem?_range hj]
    simp only [Option.map_some]
    rw [show 7 - (8 - k + j) = k - 1 - j by omega, Nat.pow_mul]
  · rw [List.getElem?_eq_none (by rw [be_length]; omega), List.getElem?_eq_none (by rw [Rdr.numB_len]; omega)]
theorem num_rest {E r : List UInt8} {pos n k : Nat} (hp : pos ≤ E.length) (h : E.drop pos = be n k ++ r) (h1 : 1 ≤ k) (h8 : k ≤ 8) (hn : n < 256 ^ k) :
    Rdr.RD.numV ⟨E, pos, none⟩ (k : Int) = n ∧ Rdr.RD.numS ⟨E, pos, none⟩ (k : Int) = ⟨E, pos + k, none⟩ ∧ E.drop (pos + k) = r ∧ pos + k ≤ E.length := by
  obtain ⟨a, b, c, d⟩ := take_rest hp h
  rw [be_length] at a b c d
  have hf : Rdr.fitsW (k : Int) = true := by unfold Rdr.fitsW; rw [decide_eq_true (by omega), decide_eq_true (by omega)]; rfl
  refine ⟨?_, ?_, c, d⟩
  · unfold Rdr.RD.numV
    rw [hf, a, be_numB _ _ h8, Rdr.beN_numB, Nat.mod_eq_of_lt hn]
  · unfold Rdr.RD.numS
    rw [hf, b]
theorem cnt_rest {E r : List UInt8} {pos n k m : Nat} (hp : pos ≤ E.length) (h : E.drop pos = be n k ++ r) (h1 : 1 ≤ k) (h8 : k ≤ 8) (hn : n < 256 ^ k) (hm : n ≤ m) :
    Rdr.RD.cntV ⟨E, pos, none⟩ (k : Int) (m : Int) = n ∧ Rdr.RD.cntS ⟨E, pos, none⟩ (k : Int) (m : Int) = ⟨E, pos + k, none⟩ ∧ E.drop (pos + k) = r ∧ pos + k ≤ E.length := by
  obtain ⟨a, b, c, d⟩ := num_rest hp h h1 h8 hn
  have hS : Rdr.RD.cntS ⟨E, pos, none⟩ (k : Int) (m : Int) = ⟨E, pos + k, none⟩ := by
    unfold Rdr.RD.cntS
    rw [a, if_neg (by omega), b]
  refine ⟨?_, hS, c, d⟩
  unfold Rdr.RD.cntV
  rw [hS, if_pos rfl, a]
/-- a row of ids, one behind the other -/
def chunks (L : List UInt8) (k : Nat) : List (List UInt8) := (List.range k).map fun i => (L.drop (32 * i)).take 32
theorem chunks_flat (L : List UInt8) : ∀ k, (chunks L k).flatMap bytesV = bytesV (L.take (32 * k))
  | 0 => rfl
  | k + 1 => by
    have ih := chunks_flat L k
    unfold chunks at ih ⊢
    rw [List.range_succ, List.map_append, List.flatMap_append, ih, Nat.mul_add, List.take_add, bytesV_append]
    simp
theorem is_chunks {w : World} {base : Nat} {p : Option Addr} {k c : Nat} {L : List UInt8} (h : w.ownsRow base 55 32 (.slice p k c) k (bytesV L)) (hl : L.length = 32 * k) : Is w p k c 32 (chunks L k) := by
  obtain ⟨p', c', he, hs⟩ := own_sl h
  cases he
  refine ⟨by rw [chunks_flat, List.take_of_length_le (by omega)]; exact hs, fun x hx => ?_, by simp [chunks]⟩
  simp only [chunks, List.mem_map, List.mem_range] at hx
  obtain ⟨i, hi, rfl⟩ := hx
  rw [List.length_take, List.length_drop]
  omega
theorem chunks_of : ∀ (ids : List (List UInt8)), (∀ x ∈ ids, x.length = 32) → chunks ids.flatten ids.length = ids
  | [], _ => rfl
  | x :: r, h => by
    have hx := h x (by simp)
    have ih := chunks_of r (fun y hy => h y (by simp [hy]))
    unfold chunks at ih ⊢
    rw [List.length_cons, List.range_succ_eq_map, List.map_cons, List.map_map, List.flatten_cons]
    congr 1
    · rw [Nat.mul_zero, List.drop_zero, ← hx, List.take_left]
    · rw [← ih]
      simp only [ih]
      refine Eq.trans (List.map_congr_left fun i _ => ?_) ih
      show ((x ++ r.flatten).drop (32 * (i + 1))).take 32 = _
      rw [show 32 * (i + 1) = x.length + 32 * i by rw [hx]; omega, ← List.drop_drop, List.drop_left]
/-! ### what the loop of the writer keeps -/
structure WI (w : World) (wb g : Nat) (v : Value) (R : Nat) (l : List UInt8) (bad : Int) (cs : List Value) (x : World) : Prop where
  wat : WAt x wb v R l bad
  low : ∀ i, foot wb v i → w.heap.size ≤ i ∧ i ≠ g
  row : x.heap[g]? = some (.cells cs.toArray 66 (0, 0))
  bel : Below w.heap.size w x
theorem WI.turn {w x y : World} {wb g : Nat} {v : Value} {R : Nat} {l : List UInt8} {bad : Int} {cs : List Value} (h : WI w wb g v R l bad cs x) (ht : Turns (foot wb v) x y) : Below w.heap.size w y :=
  h.bel.trans (ht.below h.bel.size (fun i hi => (h.low i hi).1))
theorem WI.step {w x y : World} {wb g : Nat} {v : Value} {R : Nat} {l : List UInt8} {bad : Int} {r : List UInt8 × Int} {cs : List Value} (h : WI w wb g v R l bad cs x) (hl : Wr.Left wb v R r x y) : ∃ v', WI w wb g v' R r.1 r.2 cs y := by
  obtain ⟨v', h1, h2, h3⟩ := hl
  have hg := (Array.getElem?_eq_some_iff.1 h.row).1
  have hs := h.bel.size
  refine ⟨v', h1, fun i hi => ?_, h2.keep h.row (fun hf => (h.low _ hf).2 rfl), h.turn h2⟩
  rcases hi with rfl | hi
  · exact h.low _ (.inl rfl)
  · rcases Nat.lt_or_ge i x.heap.size with h4 | h4
    · exact h.low _ (.inr (h3 i hi h4))
    · omega
end Go.Proofs.YtbfddfmglkhimaaDoor.W10R
