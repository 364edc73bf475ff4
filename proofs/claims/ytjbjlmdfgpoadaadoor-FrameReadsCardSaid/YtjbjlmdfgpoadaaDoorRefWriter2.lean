/- THE WALKS OF THE REFERENCE's WRITER, on: Number, Num, Ids. Conditions: sizes that fit. -/
import Derived.Test.YtjbjlmdfgpoadaaDoorRefWriter
import Derived.Deep.RegionHeld3
import Derived.Deep.RegionWith
namespace Go.Proofs.YtjbjlmdfgpoadaaDoor.RW
open Go.RowKit Go.Mir Go.Mir.Parts Wr

theorem be_take (n m k : Nat) (hk : k < m) : (be n m).take (k + 1) = (be n m).take k ++ [nb n (8 - m + k)] := by
  rw [List.take_succ_eq_append_getElem (by rw [be_length]; exact hk)]; simp [be]

set_option maxRecDepth 100000 in
set_option maxHeartbeats 400000 in
theorem number_any (n m : Nat) (hn : n < 18446744073709551616) (hm : m ≤ 8) (w : World) :
    Calls Tryd.prog 34 #[.int .u64 (n : Int), .int .i64 (m : Int)] w fun e w' => (∃ v, e = .returned v ∧ w'.ownsRow w.heap.size 5 1 v m (bytesV (be n m))) ∧ Below w.heap.size w w' := by
  go_enter Tryd.func34, Tryd.ntmps34
  go_wp2
  go_loopw [5, 6] (fun x j wr => ∃ k : Nat, k ≤ m ∧ j = .int .i64 ((m : Int) - 1 - (k : Int)) ∧ wr.ownsRow w.heap.size 5 1 x k (bytesV ((be n m).take k)) ∧ Below w.heap.size w wr) (fun _ j _ => (intOf j + 1).toNat)
  case atStart => exact ⟨0, by omega, by go_num, World.ownsRow_nil _ _ _ _, Below.refl _ _⟩
  case round =>
    obtain ⟨k, hk, rfl, how, hbl⟩ := hrel
    have HO := Lib.hid how
    have HB := Lib.hid hbl
    clear how hbl
    by_cases hlt : k < m
    · have hd : decide ((0 : Int) ≤ (m : Int) - 1 - (k : Int)) = true := by simp; omega
      obtain ⟨i, hi⟩ : ∃ i : Nat, (m : Int) - 1 - (k : Int) = (i : Int) := ⟨m - 1 - k, by omega⟩
      rw [hi]
      rw [hi] at hd
      have hi2 : 7 - i = 8 - m + k := by omega
      have hv := nb_int n i (by omega)
      rw [hi2] at hv
      have hil : i < 8 := by omega
      have HI := Lib.hid hi
      clear hi hi2
      have hbd : Hid (k + 1 ≤ 9223372036854775807 ∧ (k + 1) * 1 ≤ 140737488355328) := by show _ ∧ _; omega
      have hnew : Hid (Bs (wr.alloc (.cells #[.int .u8 ((nb n (8 - m + k)).toNat : Int)] 5)) (some ⟨wr.heap.size, 0, none⟩) 1 1 [nb n (8 - m + k)]) := Bs.made wr [nb n (8 - m + k)] _ _ _ 1 rfl rfl (by omega)
      have htk : Hid (bytesV ((be n m).take (k + 1)) = bytesV ((be n m).take k) ++ bytesV [nb n (8 - m + k)]) := by
        show _ = _
        rw [be_take n m k hlt, bytesV_append]
      go_wp2_with (at_builtin; refine wpList_append_nx rfl _ _ 22 rfl (base := w.heap.size) Tryd.underlying22 infoB rfl (by omega) rfl (HO.out.alloc _) rfl hnew.out (bytesV_one _) hbd.out (by have := HB.out.size; simp; omega) ?_)
      intro p' c' w1 hown hg hnx hne
      have HO' : Hid (w1.ownsRow w.heap.size 5 1 (.slice p' (k + 1) c') (k + 1) (bytesV ((be n m).take (k + 1)))) := by
        show World.ownsRow _ _ _ _ _ _ _
        rw [htk.out]; exact hown
      have HB' : Hid (Below w.heap.size w w1) := (HB.out.alloc HB.out.size _).trans ((Below.refl _ _).grown hg (by have := HB.out.size; simp; omega) (fun i hi => (HO.out.lt i hi).1))
      clear hown hg hnx hne
      go_wp2
      go_roundw
      case rel => exact ⟨k + 1, by omega, by have := HI.out; congr 1; omega, HO'.out, HB'.out⟩
      case measure => simp [intOf]
    · obtain rfl : k = m := by omega
      have hd : decide ((0 : Int) ≤ (k : Int) - 1 - (k : Int)) = false := by simp; omega
      have HO2 : Hid (wr.ownsRow w.heap.size 5 1 u5 k (bytesV (be n k))) := by
        have := HO.out; rw [List.take_of_length_le (by rw [be_length]; omega)] at this; exact this
      go_wp2
      go_ret
      exact ⟨⟨_, rfl, HO2.out⟩, HB.out⟩

/-- what is held behind the reference's Num -/
def numR (room : Nat) (l : List UInt8) (bad : Int) (n : Nat) (width : Int) : List UInt8 × Int :=
  if 1 ≤ width ∧ width ≤ 8 ∧ (width = 8 ∨ n < 2 ^ (8 * width.toNat)) then bytesR room l bad (be n width.toNat) else (l, if bad = 0 then 1 else bad)

/-- the cells of a reference's writer in a block, and that they may be written -/
theorem rw_cells {w : World} {b : Nat} {x y z : Value} {t : TypeId} (h : w.heap[b]? = some (.cells #[x, y, z] t (0, 0))) :
    w.cell? ⟨b, 0, none⟩ = some x ∧ w.cell? ⟨b, 1, none⟩ = some y ∧ w.cell? ⟨b, 2, none⟩ = some z ∧ w.frozen? ⟨b, 0, none⟩ = false ∧ w.frozen? ⟨b, 1, none⟩ = false ∧ w.frozen? ⟨b, 2, none⟩ = false :=
  ⟨by rw [cell_of_row _ _ _ _ _ _ h]; rfl, by rw [cell_of_row _ _ _ _ _ _ h]; rfl, by rw [cell_of_row _ _ _ _ _ _ h]; rfl, frozen_of_row _ _ _ _ _ h, frozen_of_row _ _ _ _ _ h, frozen_of_row _ _ _ _ _ h⟩

end Go.Proofs.YtjbjlmdfgpoadaaDoor.RW
