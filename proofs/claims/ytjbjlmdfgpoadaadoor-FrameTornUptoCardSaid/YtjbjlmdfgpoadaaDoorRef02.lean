/- THE WALKS OF THE REFERENCE's SMALL WORDS ON PARTS: Few, Join. Conditions: sizes that fit. -/
import Derived.Test.YtjbjlmdfgpoadaaDoorLib
import Derived.Test.YtjbjlmdfgpoadaaDoorProg
namespace Go.Proofs.YtjbjlmdfgpoadaaDoor.R02
open Go.RowKit Go.Mir

theorem infoB : (Tryd.prog.info? 5).map (fun i => (i.zero, i.size, i.bytes)) = some (some (.int .u8 0), 1, 1) := by kernel_rfl
theorem take_snoc {α : Type} (l : List α) (k : Nat) (h : k < l.length) : l.take (k + 1) = l.take k ++ [l[k]] := by
  rw [List.take_succ_eq_append_getElem h]
def total (ls : List (List UInt8)) : Nat := (ls.map List.length).sum
theorem total_take (ls : List (List UInt8)) (k : Nat) (h : k < ls.length) : total (ls.take (k + 1)) = total (ls.take k) + ls[k].length := by
  rw [take_snoc ls k h]; simp only [total, List.map_append, List.sum_append, List.map_cons, List.map_nil, List.sum_cons, List.sum_nil, Nat.add_zero]
theorem total_le (ls : List (List UInt8)) (k : Nat) : total (ls.take k) ≤ total ls := by
  have := congrArg total (List.take_append_drop k ls)
  simp only [total, List.map_append, List.sum_append] at this ⊢
  omega
theorem total_flatten (ls : List (List UInt8)) : ls.flatten.length = total ls := by simp [total, List.length_flatten]

set_option maxRecDepth 100000 in
set_option maxHeartbeats 400000 in
theorem few_any (p : Option Addr) (n c : Nat) (ls : List (List UInt8)) (most : Nat) (w : World) (h : Pts w p n c ls) (hs : n + total ls ≤ 4611686018427387904) (hm : most ≤ 4611686018427387904) :
    Calls Tryd.prog 16 #[.slice p n c, .int .i64 (most : Int)] w fun e w' => e = .returned (.bool (decide (n + total ls ≤ most))) ∧ w = w' := by
  have hle := h.le
  have hmax := h.max
  have hn := h.len
  go_enter Tryd.func16, Tryd.ntmps16
  go_wp2
  go_loop [5, 6] (fun x j => ∃ k : Nat, k ≤ n ∧ j = .int .i64 k ∧ x = .int .i64 ((n + total (ls.take k) : Nat) : Int)) (fun _ j => n - (intOf j).toNat)
  case atStart => exact ⟨0, by omega, rfl, rfl⟩
  case round =>
    obtain ⟨k, hk, rfl, rfl⟩ := hrel
    have htl := total_le ls k
    by_cases hlt : k < n
    · obtain ⟨b, o, rfl⟩ := h.addr (by omega)
      obtain ⟨q, m, d, hc, hB⟩ := h.cell _ rfl k (by omega)
      rw [add_none] at hc
      have htk := total_take ls k (by omega)
      have htl' := total_le ls (k + 1)
      rw [hB.length] at htk
      have HTK := Lib.hid htk
      have hsum : n + total (ls.take k) + m ≤ 4611686018427387904 := by omega
      clear htk htl' hB
      generalize hT : total (ls.take k) = T at *
      have HT := Lib.hid hT
      clear hT
      go_wp2
      go_round
      case rel => exact ⟨k + 1, by omega, by go_num, by rw [HTK.out]; go_num⟩
      case measure => simp [intOf]; omega
    · have hk' : k = ls.length := by omega
      rw [hk', List.take_length]
      generalize hT : total ls = T at *
      have HT := Lib.hid hT
      clear hT htl
      by_cases hf : n + T ≤ most
      · have hd : decide (n + T ≤ most) = true := by simp [hf]
        have HD := Lib.hid hd
        clear hd
        go_wp2
        go_ret
        exact ⟨congrArg (fun b => Ending.returned (.bool b)) (by rw [HT.out, HD.out]; simp; omega), rfl⟩
      · have hd : decide (n + T ≤ most) = false := by simp [hf]
        have HD := Lib.hid hd
        clear hd
        go_wp2
        go_ret
        exact ⟨congrArg (fun b => Ending.returned (.bool b)) (by rw [HT.out, HD.out]; simp; omega), rfl⟩

end Go.Proofs.YtjbjlmdfgpoadaaDoor.R02
