/- THE PLAIN LAW OF WHAT IS CONNECTED AND DISCONNECTED; and blocks built. Conditions: none. -/
import Derived.Test.YtepemfgiigceoaaChRef2
namespace Go.Proofs.Ytepemfgiigceoaa.Chn
open Go.RowKit Go.Mir Go.Mir.Parts Go.Proofs.Ytepemfgiigceoaa.Blk

/-- the last blocks, as many as the depth and one -/
def win (d : Nat) (l : List BlkD) : List BlkD := l.drop (l.length - (d + 1))
theorem win_len (d : Nat) (l : List BlkD) : (win d l).length ≤ d + 1 := by unfold win; rw [List.length_drop]; omega
theorem win_small {d : Nat} {l : List BlkD} (h : l.length ≤ d + 1) : win d l = l := by unfold win; rw [show l.length - (d + 1) = 0 by omega]; rfl
theorem win_snoc (d : Nat) (l : List BlkD) (b : BlkD) : cutD d (win d l ++ [b]) = win d (l ++ [b]) := by
  unfold cutD win
  have e : l.drop (l.length - (d + 1)) ++ [b] = (l ++ [b]).drop (l.length - (d + 1)) := by rw [List.drop_append_of_le_length (by omega)]
  rw [e]
  by_cases h : l.length < d + 1
  · rw [if_neg (by simp; omega)]
    congr 1
    simp; omega
  · rw [if_pos (by simp; omega), List.drop_drop]
    congr 1
    simp; omega
theorem win_ne {d : Nat} {l : List BlkD} (h : l ≠ []) : win d l ≠ [] := by
  intro e
  have := congrArg List.length e
  unfold win at this
  have : 0 < l.length := List.length_pos_iff.2 h
  simp at *
  omega
/-- what is left of the old blocks, when what came has gone again -/
theorem win_back (d : Nat) (l bs : List BlkD) (h : bs.length < d) (hl : l ≠ []) : (win d (l ++ bs)).take ((win d (l ++ bs)).length - bs.length) = l.drop (l.length + bs.length - (d + 1)) := by
  have h0 : 0 < l.length := List.length_pos_iff.2 hl
  unfold win
  rw [List.length_append]
  have hk : l.length + bs.length - (d + 1) ≤ l.length := by omega
  rw [List.drop_append_of_le_length hk, List.length_append, List.length_drop]
  rw [List.take_append_of_le_length (by rw [List.length_drop]; omega), List.take_of_length_le (by rw [List.length_drop]; omega)]
theorem take_dropLast {l : List BlkD} {j : Nat} (h : j < l.length) : (l.take (l.length - j)).dropLast = l.take (l.length - (j + 1)) := by
  rw [List.dropLast_eq_take, List.length_take, List.take_take]
  congr 1
  omega
theorem buildB64v (a0 a1 a2 a3 a4 a5 a6 a7 a8 a9 a10 a11 a12 a13 a14 a15 a16 a17 a18 a19 a20 a21 a22 a23 a24 a25 a26 a27 a28 a29 a30 a31 b0 b1 b2 b3 b4 b5 b6 b7 b8 b9 b10 b11 b12 b13 b14 b15 b16 b17 b18 b19 b20 b21 b22 b23 b24 b25 b26 b27 b28 b29 b30 b31 : Value) : Try.prog.built 33 [(0, .agg #[a0, a1, a2, a3, a4, a5, a6, a7, a8, a9, a10, a11, a12, a13, a14, a15, a16, a17, a18, a19, a20, a21, a22, a23, a24, a25, a26, a27, a28, a29, a30, a31]), (1, .agg #[b0, b1, b2, b3, b4, b5, b6, b7, b8, b9, b10, b11, b12, b13, b14, b15, b16, b17, b18, b19, b20, b21, b22, b23, b24, b25, b26, b27, b28, b29, b30, b31])] = some #[a0, a1, a2, a3, a4, a5, a6, a7, a8, a9, a10, a11, a12, a13, a14, a15, a16, a17, a18, a19, a20, a21, a22, a23, a24, a25, a26, a27, a28, a29, a30, a31, b0, b1, b2, b3, b4, b5, b6, b7, b8, b9, b10, b11, b12, b13, b14, b15, b16, b17, b18, b19, b20, b21, b22, b23, b24, b25, b26, b27, b28, b29, b30, b31, Value.slice none 0 0] := by kernel_rfl
theorem buildB64 (a b : List Value) (ha : a.length = 32) (hb : b.length = 32) : Try.prog.built 33 [(0, .agg a.toArray), (1, .agg b.toArray)] = some (a ++ b ++ [Value.slice none 0 0]).toArray :=
  match a, ha, b, hb with
  | [a0, a1, a2, a3, a4, a5, a6, a7, a8, a9, a10, a11, a12, a13, a14, a15, a16, a17, a18, a19, a20, a21, a22, a23, a24, a25, a26, a27, a28, a29, a30, a31], _, [b0, b1, b2, b3, b4, b5, b6, b7, b8, b9, b10, b11, b12, b13, b14, b15, b16, b17, b18, b19, b20, b21, b22, b23, b24, b25, b26, b27, b28, b29, b30, b31], _ => buildB64v a0 a1 a2 a3 a4 a5 a6 a7 a8 a9 a10 a11 a12 a13 a14 a15 a16 a17 a18 a19 a20 a21 a22 a23 a24 a25 a26 a27 a28 a29 a30 a31 b0 b1 b2 b3 b4 b5 b6 b7 b8 b9 b10 b11 b12 b13 b14 b15 b16 b17 b18 b19 b20 b21 b22 b23 b24 b25 b26 b27 b28 b29 b30 b31
theorem build_blk (h p : List UInt8) (hh : h.length = 32) (hp : p.length = 32) : Try.prog.built 33 [(0, .agg (idA h)), (1, .agg (idA p))] = some (blkA h p none 0 0) := by
  have := buildB64 (bytesV h) (bytesV p) (by rw [bytesV_length, hh]) (by rw [bytesV_length, hp])
  exact this
/-- a value built -/
theorem wpList_build {P : Program} {w : World} {ops : Array Oper} {rest : List Oper} {o : Oper} {a : Act} {Q : Exit → Act → World → Prop} (hgd : o.guard = none) (t : TypeId) (parts : Array (Nat × Operand)) (ho : o.op = .build t parts)
    (vals : List (Nat × Value)) (hv : (parts.toList.map fun p => (p.1, a.eval p.2)) = vals) (cells : Array Value) (h : P.built t vals = some cells) (k : wpList P ops Q rest (a.put o.dst (.agg cells)) w) : wpList P ops Q (o :: rest) a w := by
  refine wpList_plain hgd fun K hK => ?_
  unfold Oper.wp execOp
  have hb : P.built t (parts.map fun p => (p.1, a.eval p.2)).toList = some cells := by rw [Array.toList_map, hv]; exact h
  simp only [ho, Sem.run_bind, Sem.run_pure, Result.andThen_ok, run_build w t _ cells hb]
  exact hK _ _ k
/-- the hash of a block that the statement makes -/
def hid (i : Nat) : List UInt8 := 200 :: UInt8.ofNat i :: List.replicate 30 0
theorem hid_len (i : Nat) : (hid i).length = 32 := by simp [hid]
theorem buildHid (v : Int) : Try.prog.built 30 [(0, .int .u8 200), (1, .int .u8 v)] = some (Value.int .u8 200 :: Value.int .u8 v :: List.replicate 30 (Value.int .u8 0)).toArray := by kernel_rfl
theorem build_hid (i : Nat) (hi : i < 256) : Try.prog.built 30 [(0, .int .u8 200), (1, .int .u8 (i : Int))] = some (idA (hid i)) := by
  rw [buildHid]
  have : (UInt8.ofNat i).toNat = i := by rw [UInt8.toNat_ofNat']; exact Nat.mod_eq_of_lt hi
  simp [idA, bytesV, hid, this]
end Go.Proofs.Ytepemfgiigceoaa.Chn
