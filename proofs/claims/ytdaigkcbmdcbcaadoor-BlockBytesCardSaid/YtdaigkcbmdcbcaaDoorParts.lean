/- PARTS: how many bytes they have in all, and as far as one has come. No program is named. Conditions: none. -/
import Derived.Test.YtdaigkcbmdcbcaaDoorLib
namespace Go.Mir.Parts

theorem take_snoc {α : Type} (l : List α) (k : Nat) (h : k < l.length) : l.take (k + 1) = l.take k ++ [l[k]] := by
  rw [List.take_succ_eq_append_getElem h]
def total (ls : List (List UInt8)) : Nat := (ls.map List.length).sum
theorem total_take (ls : List (List UInt8)) (k : Nat) (h : k < ls.length) : total (ls.take (k + 1)) = total (ls.take k) + ls[k].length := by
  rw [take_snoc ls k h]; simp only [total, List.map_append, List.sum_append, List.map_cons, List.map_nil, List.sum_cons, List.sum_nil, Nat.add_zero]
theorem total_le (ls : List (List UInt8)) (k : Nat) : total (ls.take k) ≤ total ls := by
  have := congrArg total (List.take_append_drop k ls)
  simp only [total, List.map_append, List.sum_append] at this ⊢
  omega
theorem total_flatten (ls : List (List UInt8)) : ls.flatten.length = total ls := by simp [total, List.length_flatten]


end Go.Mir.Parts
