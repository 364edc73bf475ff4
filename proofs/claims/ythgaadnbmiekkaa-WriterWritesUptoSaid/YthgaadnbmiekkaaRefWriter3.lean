/- THE WALKS OF THE REFERENCE's WRITER, on: Ids. Conditions: sizes that fit. -/
import Derived.Test.YthgaadnbmiekkaaRefWriter2
namespace Go.Proofs.Ythgaadnbmiekkaa.RW
open Go.RowKit Go.Mir Go.Mir.Parts Wr

theorem ids_len (ids : List (List UInt8)) (h : ∀ x ∈ ids, x.length = 32) (k : Nat) : (ids.take k).flatten.length = 32 * (ids.take k).length := by
  rw [total_flatten]; exact total_ids _ (fun x hx => h x (List.mem_of_mem_take hx))

set_option maxRecDepth 100000 in
set_option maxHeartbeats 400000 in
theorem ids_any (room : Nat) (p q : Option Addr) (n c m d : Nat) (l : List UInt8) (ids : List (List UInt8)) (bad : Int) (w : World) (hB : Bs w p n c l) (hQ : Is w q m d 32 ids) (hr : room ≤ 9223372036854775807) (hl : n + 32 * m ≤ 70368744177664) (hp : ∀ a, p = some a → a.block < w.heap.size) :
    Calls Try.prog 24 #[rv (room : Int) p n c bad, .slice q m d] w fun e w' => RLeft room p (bytesR room l bad ids.flatten) e w w' ∧ Below w.heap.size w w' := by
  have hle' := hQ.sl.le
  have hmax' := hQ.sl.max
  have hcnt := hQ.count
  have HB := Lib.hid hB
  have HQ := Lib.hid hQ
  clear hB hQ
  go_enter Try.func24, Try.ntmps24
  go_wp2
  go_loopw [5, 6] (fun x j wr => ∃ k : Nat, k ≤ m ∧ j = .int .i64 k ∧ wr.ownsRow (w.heap.size + 2) 5 1 x (32 * k) (bytesV (ids.take k).flatten) ∧ Below (w.heap.size + 2) ((w.alloc (.cells #[.int .i64 (room : Int), .slice p n c, .int .i64 bad] 48)).alloc (.cells #[.int .i64 0, .slice none 0 0, .int .i64 0] 48)) wr) (fun _ j _ => m - (intOf j).toNat)
  case atStart => exact ⟨0, by omega, rfl, World.ownsRow_nil _ _ _ _, Below.refl _ _⟩
  case round =>
    obtain ⟨k, hk, rfl, how, hbl⟩ := hrel
    have HO := Lib.hid how
    have HW := Lib.hid hbl
    have hsz : w.heap.size + 2 ≤ wr.heap.size := by have := hbl.size; simp at this; omega
    have HBw : Hid (Below w.heap.size w wr) := ((Below.allocs _ _).alloc (by simp) _).trans (hbl.mono (by omega))
    clear how hbl
    by_cases hlt : k < m
    · obtain ⟨b, o, rfl⟩ := HQ.out.sl.addr (by omega) (by omega)
      have hone := (HQ.out.below HBw.out).one k (by omega) (by omega)
      have HONE := Lib.hid hone
      clear hone
      have hbd : Hid (32 * k + 32 ≤ 9223372036854775807 ∧ (32 * k + 32) * 1 ≤ 140737488355328) := by show _ ∧ _; omega
      have htk : Hid (bytesV (ids.take (k + 1)).flatten = bytesV (ids.take k).flatten ++ bytesV ids[k]) := by
        show _ = _
        rw [take_snoc ids k (by omega), List.flatten_append, bytesV_append]; simp
      go_wp2_with (at_builtin; refine wpList_append_nx rfl _ _ 23 rfl (base := w.heap.size + 2) Try.underlying23 infoB rfl (by omega) rfl HO.out rfl HONE.out (bytesV_one _) hbd.out hsz ?_)
      intro p' c' w1 hown hg hnx hne
      have HO' : Hid (w1.ownsRow (w.heap.size + 2) 5 1 (.slice p' (32 * k + 32) c') (32 * (k + 1)) (bytesV (ids.take (k + 1)).flatten)) := by
        show World.ownsRow _ _ _ _ _ _ _
        rw [htk.out]; exact hown
      have HW' : Hid (Below (w.heap.size + 2) ((w.alloc (.cells #[.int .i64 (room : Int), .slice p n c, .int .i64 bad] 48)).alloc (.cells #[.int .i64 0, .slice none 0 0, .int .i64 0] 48)) w1) := HW.out.trans ((Below.refl _ _).grown hg hsz (fun i hi => (HO.out.lt i hi).1))
      clear hown hg hnx hne
      go_wp2
      go_roundw
      case rel => exact ⟨k + 1, by omega, by go_num, HO'.out, HW'.out⟩
      case measure => simp [intOf]; omega
    · obtain rfl : k = m := by omega
      have HO2 : Hid (wr.ownsRow (w.heap.size + 2) 5 1 u5 (32 * k) (bytesV ids.flatten)) := by
        have := HO.out; rw [List.take_of_length_le (by omega)] at this; exact this
      obtain ⟨px, cx, hx, hsx⟩ := own_sl HO2.out
      subst hx
      have HSX : Hid (Bs wr px (32 * k) cx ids.flatten) := hsx
      have e0 := Below.keepBlock HW.out (heap_alloc2_old _ _ _) (by omega)
      have e1 := Below.keepBlock HW.out (heap_alloc2_new _ _ _) (by omega)
      obtain ⟨a0, a1, a2, _, _, _⟩ := rw_cells e0
      have E1 := Lib.hid e1
      clear hsx e0 e1
      go_wp2_with fail
      refine (bytes_any room p _ n c _ _ l ids.flatten bad _ (HB.out.below HBw.out) HSX.out hr (by omega) (fun a ha => by have := hp a ha; omega)).mono ?_
      rintro e w2 ⟨⟨p2, n2, c2, rfl, hs2, hf2⟩, hb2⟩
      have e1 := Below.keepOld hb2 E1.out
      obtain ⟨c10, c11, c12, f10, f11, f12⟩ := rw_cells e1
      have e2 := heap_setCell_same _ (w.heap.size + 1) 2 _ _ (.int .i64 (bytesR room l bad ids.flatten).2) (heap_setCell_same _ (w.heap.size + 1) 1 _ _ (.slice p2 n2 c2) (heap_setCell_same _ (w.heap.size + 1) 0 _ _ (.int .i64 (room : Int)) e1))
      have E2 := Lib.hid e2
      have HS2 := Lib.hid hs2
      have HF2 := Lib.hid hf2
      have HB2 : Hid (Below w.heap.size w w2) := HBw.out.trans (hb2.mono HBw.out.size)
      clear hs2 hf2 hb2 e1 e2
      go_wp2_with fail
      refine bodyPost_ret (results_cell_row rfl _ _ _ _ _ _ _ rfl E2.out Try.underlying48 rfl (by kernel_rfl)) rfl ⟨?_, ?_⟩
      · refine ⟨p2, n2, c2, rfl, ?_, fun a ha => ⟨?_, ?_⟩⟩
        · refine HS2.out.touch ((((Turns.refl (fun k => k = w.heap.size + 1) w2).setCell (p := ⟨w.heap.size + 1, 0, none⟩) (fun _ => rfl) _).setCell (p := ⟨w.heap.size + 1, 1, none⟩) (fun _ => rfl) _).setCell (p := ⟨w.heap.size + 1, 2, none⟩) (fun _ => rfl) _) (fun a ha _ e => ?_)
          rcases (HF2.out a ha).1 with h | h
          · have := hp a h; omega
          · omega
        · rcases (HF2.out a ha).1 with h | h
          · exact .inl h
          · exact .inr (by omega)
        · have := (HF2.out a ha).2; simpa [World.setCell] using this
      · exact ((HB2.out.setCell (by simp) _).setCell (by simp) _).setCell (by simp) _

end Go.Proofs.Ythgaadnbmiekkaa.RW
