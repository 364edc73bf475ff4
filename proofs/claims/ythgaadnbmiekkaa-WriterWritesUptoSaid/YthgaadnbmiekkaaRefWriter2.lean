/- THE WALKS OF THE REFERENCE's WRITER, on: Number, Num, Ids. Conditions: sizes that fit. -/
import Derived.Test.YthgaadnbmiekkaaRefWriter
import Derived.Deep.RegionHeld3
import Derived.Deep.RegionWith
namespace Go.Proofs.Ythgaadnbmiekkaa.RW
open Go.RowKit Go.Mir Go.Mir.Parts Wr

theorem be_take (n m k : Nat) (hk : k < m) : (be n m).take (k + 1) = (be n m).take k ++ [nb n (8 - m + k)] := by
  rw [List.take_succ_eq_append_getElem (by rw [be_length]; exact hk)]; simp [be]

set_option maxRecDepth 100000 in
set_option maxHeartbeats 400000 in
theorem number_any (n m : Nat) (hn : n < 18446744073709551616) (hm : m ≤ 8) (w : World) :
    Calls Try.prog 26 #[.int .u64 (n : Int), .int .i64 (m : Int)] w fun e w' => (∃ v, e = .returned v ∧ w'.ownsRow w.heap.size 5 1 v m (bytesV (be n m))) ∧ Below w.heap.size w w' := by
  go_enter Try.func26, Try.ntmps26
  go_wp2
  go_loopw [5, 6] (fun x j wr => ∃ k : Nat, k ≤ m ∧ j = .int .i64 ((m : Int) - 1 - (k : Int)) ∧ wr.ownsRow w.heap.size 5 1 x k (bytesV ((be n m).take k)) ∧ Below w.heap.size w wr) (fun _ j _ => (intOf j + 1).toNat)
  case atStart => exact ⟨0, by omega, by go_num, World.ownsRow_nil _ _ _ _, Below.refl _ _⟩
  case round =>
    obtain ⟨k, hk, rfl, how, hbl⟩ := hrel
    have HO := Lib.hid how
    have HB := Lib.hid hbl
    clear how hbl
    by_cases hlt : k < m
    · have hd : decide ((0 : Int) ≤ (m : Int) - 1 - (k : Int)) = true := by simp; omega
      obtain ⟨i, hi⟩ : ∃ i : Nat, (m : Int) - 1 - (k : Int) = (i : Int) := ⟨m - 1 - k, by omega⟩
      rw [hi]
      rw [hi] at hd
      have hi2 : 7 - i = 8 - m + k := by omega
      have hv := nb_int n i (by omega)
      rw [hi2] at hv
      have hil : i < 8 := by omega
      have HI := Lib.hid hi
      clear hi hi2
      have hbd : Hid (k + 1 ≤ 9223372036854775807 ∧ (k + 1) * 1 ≤ 140737488355328) := by show _ ∧ _; omega
      have hnew : Hid (Bs (wr.alloc (.cells #[.int .u8 ((nb n (8 - m + k)).toNat : Int)] 5)) (some ⟨wr.heap.size, 0, none⟩) 1 1 [nb n (8 - m + k)]) := Bs.made wr [nb n (8 - m + k)] _ _ _ 1 rfl rfl (by omega)
      have htk : Hid (bytesV ((be n m).take (k + 1)) = bytesV ((be n m).take k) ++ bytesV [nb n (8 - m + k)]) := by
        show _ = _
        rw [be_take n m k hlt, bytesV_append]
      go_wp2_with (at_builtin; refine wpList_append_nx rfl _ _ 23 rfl (base := w.heap.size) Try.underlying23 infoB rfl (by omega) rfl (HO.out.alloc _) rfl hnew.out (bytesV_one _) hbd.out (by have := HB.out.size; simp; omega) ?_)
      intro p' c' w1 hown hg hnx hne
      have HO' : Hid (w1.ownsRow w.heap.size 5 1 (.slice p' (k + 1) c') (k + 1) (bytesV ((be n m).take (k + 1)))) := by
        show World.ownsRow _ _ _ _ _ _ _
        rw [htk.out]; exact hown
      have HB' : Hid (Below w.heap.size w w1) := (HB.out.alloc HB.out.size _).trans ((Below.refl _ _).grown hg (by have := HB.out.size; simp; omega) (fun i hi => (HO.out.lt i hi).1))
      clear hown hg hnx hne
      go_wp2
      go_roundw
      case rel => exact ⟨k + 1, by omega, by have := HI.out; congr 1; omega, HO'.out, HB'.out⟩
      case measure => simp [intOf]
    · obtain rfl : k = m := by omega
      have hd : decide ((0 : Int) ≤ (k : Int) - 1 - (k : Int)) = false := by simp; omega
      have HO2 : Hid (wr.ownsRow w.heap.size 5 1 u5 k (bytesV (be n k))) := by
        have := HO.out; rw [List.take_of_length_le (by rw [be_length]; omega)] at this; exact this
      go_wp2
      go_ret
      exact ⟨⟨_, rfl, HO2.out⟩, HB.out⟩

/-- what is held behind the reference's Num -/
def numR (room : Nat) (l : List UInt8) (bad : Int) (n : Nat) (width : Int) : List UInt8 × Int :=
  if 1 ≤ width ∧ width ≤ 8 ∧ (width = 8 ∨ n < 2 ^ (8 * width.toNat)) then bytesR room l bad (be n width.toNat) else (l, if bad = 0 then 1 else bad)

/-- the cells of a reference's writer in a block, and that they may be written -/
theorem rw_cells {w : World} {b : Nat} {x y z : Value} {t : TypeId} (h : w.heap[b]? = some (.cells #[x, y, z] t (0, 0))) :
    w.cell? ⟨b, 0, none⟩ = some x ∧ w.cell? ⟨b, 1, none⟩ = some y ∧ w.cell? ⟨b, 2, none⟩ = some z ∧ w.frozen? ⟨b, 0, none⟩ = false ∧ w.frozen? ⟨b, 1, none⟩ = false ∧ w.frozen? ⟨b, 2, none⟩ = false :=
  ⟨by rw [cell_of_row _ _ _ _ _ _ h]; rfl, by rw [cell_of_row _ _ _ _ _ _ h]; rfl, by rw [cell_of_row _ _ _ _ _ _ h]; rfl, frozen_of_row _ _ _ _ _ h, frozen_of_row _ _ _ _ _ h, frozen_of_row _ _ _ _ _ h⟩

theorem num_keep {room : Nat} {p : Option Addr} {n c : Nat} {bad : Int} {w w' : World} (hb : Below ((w.alloc (.cells #[.int .i64 (room : Int), .slice p n c, .int .i64 bad] 48)).alloc (.cells #[.int .i64 0, .slice none 0 0, .int .i64 0] 48)).heap.size ((w.alloc (.cells #[.int .i64 (room : Int), .slice p n c, .int .i64 bad] 48)).alloc (.cells #[.int .i64 0, .slice none 0 0, .int .i64 0] 48)) w') :
    w'.cell? ⟨w.heap.size, 0, none⟩ = some (.int .i64 (room : Int)) ∧ w'.cell? ⟨w.heap.size, 1, none⟩ = some (.slice p n c) ∧ w'.cell? ⟨w.heap.size, 2, none⟩ = some (.int .i64 bad) ∧ w'.cell? ⟨w.heap.size + 1, 0, none⟩ = some (cellOr w' ⟨w.heap.size + 1, 0, none⟩) ∧ w'.cell? ⟨w.heap.size + 1, 1, none⟩ = some (cellOr w' ⟨w.heap.size + 1, 1, none⟩) ∧ w'.cell? ⟨w.heap.size + 1, 2, none⟩ = some (cellOr w' ⟨w.heap.size + 1, 2, none⟩) ∧ w'.frozen? ⟨w.heap.size + 1, 0, none⟩ = false ∧ w'.frozen? ⟨w.heap.size + 1, 1, none⟩ = false ∧ w'.frozen? ⟨w.heap.size + 1, 2, none⟩ = false := by
  have e0 := Below.keepOld hb (heap_alloc2_old _ _ _)
  have e1 := Below.keepOld hb (heap_alloc2_new _ _ _)
  obtain ⟨a0, a1, a2, _, _, _⟩ := rw_cells e0
  obtain ⟨b0, b1, b2, f0, f1, f2⟩ := rw_cells e1
  exact ⟨a0, a1, a2, cellOr_eq (by rw [b0]; rfl), cellOr_eq (by rw [b1]; rfl), cellOr_eq (by rw [b2]; rfl), f0, f1, f2⟩
theorem num_keep2 {room : Nat} {p : Option Addr} {n c : Nat} {bad : Int} {w w1 : World} (x y z : Value) (hb : Below ((w.alloc (.cells #[.int .i64 (room : Int), .slice p n c, .int .i64 bad] 48)).alloc (.cells #[.int .i64 0, .slice none 0 0, .int .i64 0] 48)).heap.size ((w.alloc (.cells #[.int .i64 (room : Int), .slice p n c, .int .i64 bad] 48)).alloc (.cells #[.int .i64 0, .slice none 0 0, .int .i64 0] 48)) w1) :
    (((w1.setCell ⟨w.heap.size + 1, 0, none⟩ x).setCell ⟨w.heap.size + 1, 1, none⟩ y).setCell ⟨w.heap.size + 1, 2, none⟩ z).cell? ⟨w.heap.size, 0, none⟩ = some (.int .i64 (room : Int)) ∧ (((w1.setCell ⟨w.heap.size + 1, 0, none⟩ x).setCell ⟨w.heap.size + 1, 1, none⟩ y).setCell ⟨w.heap.size + 1, 2, none⟩ z).cell? ⟨w.heap.size, 1, none⟩ = some (.slice p n c) ∧ (((w1.setCell ⟨w.heap.size + 1, 0, none⟩ x).setCell ⟨w.heap.size + 1, 1, none⟩ y).setCell ⟨w.heap.size + 1, 2, none⟩ z).cell? ⟨w.heap.size, 2, none⟩ = some (.int .i64 bad) ∧ (((w1.setCell ⟨w.heap.size + 1, 0, none⟩ x).setCell ⟨w.heap.size + 1, 1, none⟩ y).setCell ⟨w.heap.size + 1, 2, none⟩ z).cell? ⟨w.heap.size + 1, 0, none⟩ = some (cellOr (((w1.setCell ⟨w.heap.size + 1, 0, none⟩ x).setCell ⟨w.heap.size + 1, 1, none⟩ y).setCell ⟨w.heap.size + 1, 2, none⟩ z) ⟨w.heap.size + 1, 0, none⟩) ∧ (((w1.setCell ⟨w.heap.size + 1, 0, none⟩ x).setCell ⟨w.heap.size + 1, 1, none⟩ y).setCell ⟨w.heap.size + 1, 2, none⟩ z).cell? ⟨w.heap.size + 1, 1, none⟩ = some (cellOr (((w1.setCell ⟨w.heap.size + 1, 0, none⟩ x).setCell ⟨w.heap.size + 1, 1, none⟩ y).setCell ⟨w.heap.size + 1, 2, none⟩ z) ⟨w.heap.size + 1, 1, none⟩) ∧ (((w1.setCell ⟨w.heap.size + 1, 0, none⟩ x).setCell ⟨w.heap.size + 1, 1, none⟩ y).setCell ⟨w.heap.size + 1, 2, none⟩ z).cell? ⟨w.heap.size + 1, 2, none⟩ = some (cellOr (((w1.setCell ⟨w.heap.size + 1, 0, none⟩ x).setCell ⟨w.heap.size + 1, 1, none⟩ y).setCell ⟨w.heap.size + 1, 2, none⟩ z) ⟨w.heap.size + 1, 2, none⟩) ∧ (((w1.setCell ⟨w.heap.size + 1, 0, none⟩ x).setCell ⟨w.heap.size + 1, 1, none⟩ y).setCell ⟨w.heap.size + 1, 2, none⟩ z).frozen? ⟨w.heap.size + 1, 0, none⟩ = false ∧ (((w1.setCell ⟨w.heap.size + 1, 0, none⟩ x).setCell ⟨w.heap.size + 1, 1, none⟩ y).setCell ⟨w.heap.size + 1, 2, none⟩ z).frozen? ⟨w.heap.size + 1, 1, none⟩ = false ∧ (((w1.setCell ⟨w.heap.size + 1, 0, none⟩ x).setCell ⟨w.heap.size + 1, 1, none⟩ y).setCell ⟨w.heap.size + 1, 2, none⟩ z).frozen? ⟨w.heap.size + 1, 2, none⟩ = false := by
  have e0 := Below.keepOld hb (heap_alloc2_old _ _ _)
  have e1 := Below.keepOld hb (heap_alloc2_new _ _ _)
  have e0' : (((w1.setCell ⟨w.heap.size + 1, 0, none⟩ x).setCell ⟨w.heap.size + 1, 1, none⟩ y).setCell ⟨w.heap.size + 1, 2, none⟩ z).heap[w.heap.size]? = some (.cells #[.int .i64 (room : Int), .slice p n c, .int .i64 bad] 48) := by
    rw [heap_setCell_other _ _ _ _ (by simp), heap_setCell_other _ _ _ _ (by simp), heap_setCell_other _ _ _ _ (by simp)]; exact e0
  have e1' := heap_setCell_same _ (w.heap.size + 1) 2 _ _ z (heap_setCell_same _ (w.heap.size + 1) 1 _ _ y (heap_setCell_same _ (w.heap.size + 1) 0 _ _ x e1))
  obtain ⟨a0, a1, a2, _, _, _⟩ := rw_cells e0'
  obtain ⟨b0, b1, b2, f0, f1, f2⟩ := rw_cells e1'
  exact ⟨a0, a1, a2, cellOr_eq (by rw [b0]; rfl), cellOr_eq (by rw [b1]; rfl), cellOr_eq (by rw [b2]; rfl), f0, f1, f2⟩

set_option maxRecDepth 100000 in
set_option maxHeartbeats 2000000 in
theorem num_any (room : Nat) (p : Option Addr) (n c : Nat) (l : List UInt8) (bad : Int) (x m : Nat) (w : World) (hB : Bs w p n c l) (hr : room ≤ 9223372036854775807) (hl : n ≤ 70368744177664) (hx : x < 18446744073709551616) (hm1 : 1 ≤ m) (hm8 : m ≤ 8) (hok : m = 8 ∨ x < 2 ^ (8 * m)) (hp : ∀ a, p = some a → a.block < w.heap.size) :
    Calls Try.prog 21 #[rv (room : Int) p n c bad, .int .u64 (x : Int), .int .i64 (m : Int)] w fun e w' => RLeft room p (bytesR room l bad (be x m)) e w w' ∧ Below w.heap.size w w' := by
  have HB := Lib.hid hB
  clear hB
  have h1 : decide ((m : Int) < 1) = false := by simp; omega
  have h2 : decide ((8 : Int) < (m : Int)) = false := by simp; omega
  by_cases hm : m = 8
  · have h3 : decide ((m : Int) < 8) = false := by simp; omega
    clear hm hok
    go_enter Try.func21, Try.ntmps21
    go_wp2_with fail
    go_region_held3 (fun w' => w'.cell? ⟨w.heap.size, 0, none⟩ = some (.int .i64 (room : Int)) ∧ w'.cell? ⟨w.heap.size, 1, none⟩ = some (.slice p n c) ∧ w'.cell? ⟨w.heap.size, 2, none⟩ = some (.int .i64 bad) ∧ w'.cell? ⟨w.heap.size + 1, 0, none⟩ = some (cellOr w' ⟨w.heap.size + 1, 0, none⟩) ∧ w'.cell? ⟨w.heap.size + 1, 1, none⟩ = some (cellOr w' ⟨w.heap.size + 1, 1, none⟩) ∧ w'.cell? ⟨w.heap.size + 1, 2, none⟩ = some (cellOr w' ⟨w.heap.size + 1, 2, none⟩) ∧ w'.frozen? ⟨w.heap.size + 1, 0, none⟩ = false ∧ w'.frozen? ⟨w.heap.size + 1, 1, none⟩ = false ∧ w'.frozen? ⟨w.heap.size + 1, 2, none⟩ = false) (first | exact num_keep (Below.refl _ _).drew | exact num_keep2 _ _ _ hbx | exact num_keep hbx | exact num_keep hby | go_keep)
      (first
        | (go_at_call 26; refine (number_any x m hx hm8 _).mono ?_; rintro e w1 ⟨⟨v, rfl, how⟩, hb1⟩; have hby := below_of_drew hb1; obtain ⟨pv, cv, hv, hsv⟩ := own_sl how; subst hv; have HSV := Lib.hid hsv; have HBY := Lib.hid hby; clear how hsv hb1)
        | (go_at_call 22; refine (bytes_any room p _ n c m _ l (be x m) bad _ (HB.out.below ((((Below.allocs _ _).alloc (by simp) _).trans (HBY.out.mono (by simp; omega))))) HSV.out hr (by omega) (fun a ha => by have := hp a ha; have := HBY.out.size; simp at this; omega)).mono ?_; rintro e w2 ⟨⟨p2, n2, c2, rfl, hs2, hf2⟩, hb2⟩; have hbx := HBY.out.trans (hb2.mono HBY.out.size)))
    have HS2 := Lib.hid hs2
    have HF2 := Lib.hid hf2
    have HBX := Lib.hid hbx
    have HSZ : Hid (w.heap.size + 2 ≤ w1.heap.size) := by
      have := HBY.out.size
      show _ ≤ _
      simp at this; omega
    clear hs2 hf2 hbx hb2 hby
    have HB2 : Hid (Below w.heap.size w w2) := ((Below.allocs _ _).alloc (by simp) _).trans (HBX.out.mono (by simp; omega))
    have e1 := Below.keepOld HBX.out (heap_alloc2_new w (.cells #[.int .i64 (room : Int), .slice p n c, .int .i64 bad] 48) (.cells #[.int .i64 0, .slice none 0 0, .int .i64 0] 48))
    have e2 := heap_setCell_same _ (w.heap.size + 1) 2 _ _ (.int .i64 (bytesR room l bad (be x m)).2) (heap_setCell_same _ (w.heap.size + 1) 1 _ _ (.slice p2 n2 c2) (heap_setCell_same _ (w.heap.size + 1) 0 _ _ (.int .i64 (room : Int)) e1))
    have E2 := Lib.hid e2
    clear e1 e2
    go_wp2
    refine bodyPost_ret (results_cell_row rfl _ _ _ _ _ _ _ rfl E2.out Try.underlying48 rfl (by kernel_rfl)) rfl ⟨?_, ?_⟩
    · refine ⟨p2, n2, c2, rfl, ?_, fun a ha => ⟨?_, ?_⟩⟩
      · refine HS2.out.touch ((((Turns.refl (fun k => k = w.heap.size + 1) w2).setCell (p := ⟨w.heap.size + 1, 0, none⟩) (fun _ => rfl) _).setCell (p := ⟨w.heap.size + 1, 1, none⟩) (fun _ => rfl) _).setCell (p := ⟨w.heap.size + 1, 2, none⟩) (fun _ => rfl) _) (fun a ha _ e => ?_)
        rcases (HF2.out a ha).1 with h | h
        · have := hp a h; omega
        · have := HSZ.out; omega
      · rcases (HF2.out a ha).1 with h | h
        · exact .inl h
        · exact .inr (by have := HSZ.out; omega)
      · have := (HF2.out a ha).2; simpa [World.setCell] using this
    · exact ((HB2.out.setCell (by simp) _).setCell (by simp) _).setCell (by simp) _
  · have h3 : decide ((m : Int) < 8) = true := by simp; omega
    have hpow : Hid (x < 2 ^ (8 * m)) := by rcases hok with h | h; exact absurd h hm; exact h
    have hle8 : (2 : Nat) ^ (8 * m) ≤ 2 ^ 56 := Nat.pow_le_pow_right (by omega) (by omega)
    have hwr : IntKind.u64.wrap (2 ^ (8 * m)) = ((2 ^ (8 * m) : Nat) : Int) := by
      rw [IntKind.wrap_u64, ← show ((2 ^ (8 * m) : Nat) : Int) = (2 : Int) ^ (8 * m) from Int.natCast_pow 2 _]
      omega
    have hlt := hpow.out
    generalize 2 ^ (8 * m) = PW at *
    have hdx : decide (PW ≤ x) = false := by simp; omega
    clear hm hok hle8 hpow hlt
    go_enter Try.func21, Try.ntmps21
    go_wp2_with fail
    go_region_held3 (fun w' => w'.cell? ⟨w.heap.size, 0, none⟩ = some (.int .i64 (room : Int)) ∧ w'.cell? ⟨w.heap.size, 1, none⟩ = some (.slice p n c) ∧ w'.cell? ⟨w.heap.size, 2, none⟩ = some (.int .i64 bad) ∧ w'.cell? ⟨w.heap.size + 1, 0, none⟩ = some (cellOr w' ⟨w.heap.size + 1, 0, none⟩) ∧ w'.cell? ⟨w.heap.size + 1, 1, none⟩ = some (cellOr w' ⟨w.heap.size + 1, 1, none⟩) ∧ w'.cell? ⟨w.heap.size + 1, 2, none⟩ = some (cellOr w' ⟨w.heap.size + 1, 2, none⟩) ∧ w'.frozen? ⟨w.heap.size + 1, 0, none⟩ = false ∧ w'.frozen? ⟨w.heap.size + 1, 1, none⟩ = false ∧ w'.frozen? ⟨w.heap.size + 1, 2, none⟩ = false) (first | exact num_keep (Below.refl _ _).drew | exact num_keep2 _ _ _ hbx | exact num_keep hbx | exact num_keep hby | go_keep)
      (first
        | (go_at_call 26; refine (number_any x m hx hm8 _).mono ?_; rintro e w1 ⟨⟨v, rfl, how⟩, hb1⟩; have hby := below_of_drew hb1; obtain ⟨pv, cv, hv, hsv⟩ := own_sl how; subst hv; have HSV := Lib.hid hsv; have HBY := Lib.hid hby; clear how hsv hb1)
        | (go_at_call 22; refine (bytes_any room p _ n c m _ l (be x m) bad _ (HB.out.below ((((Below.allocs _ _).alloc (by simp) _).trans (HBY.out.mono (by simp; omega))))) HSV.out hr (by omega) (fun a ha => by have := hp a ha; have := HBY.out.size; simp at this; omega)).mono ?_; rintro e w2 ⟨⟨p2, n2, c2, rfl, hs2, hf2⟩, hb2⟩; have hbx := HBY.out.trans (hb2.mono HBY.out.size)))
    have HS2 := Lib.hid hs2
    have HF2 := Lib.hid hf2
    have HBX := Lib.hid hbx
    have HSZ : Hid (w.heap.size + 2 ≤ w1.heap.size) := by
      have := HBY.out.size
      show _ ≤ _
      simp at this; omega
    clear hs2 hf2 hbx hb2 hby
    have HB2 : Hid (Below w.heap.size w w2) := ((Below.allocs _ _).alloc (by simp) _).trans (HBX.out.mono (by simp; omega))
    have e1 := Below.keepOld HBX.out (heap_alloc2_new w (.cells #[.int .i64 (room : Int), .slice p n c, .int .i64 bad] 48) (.cells #[.int .i64 0, .slice none 0 0, .int .i64 0] 48))
    have e2 := heap_setCell_same _ (w.heap.size + 1) 2 _ _ (.int .i64 (bytesR room l bad (be x m)).2) (heap_setCell_same _ (w.heap.size + 1) 1 _ _ (.slice p2 n2 c2) (heap_setCell_same _ (w.heap.size + 1) 0 _ _ (.int .i64 (room : Int)) e1))
    have E2 := Lib.hid e2
    clear e1 e2
    go_wp2
    refine bodyPost_ret (results_cell_row rfl _ _ _ _ _ _ _ rfl E2.out Try.underlying48 rfl (by kernel_rfl)) rfl ⟨?_, ?_⟩
    · refine ⟨p2, n2, c2, rfl, ?_, fun a ha => ⟨?_, ?_⟩⟩
      · refine HS2.out.touch ((((Turns.refl (fun k => k = w.heap.size + 1) w2).setCell (p := ⟨w.heap.size + 1, 0, none⟩) (fun _ => rfl) _).setCell (p := ⟨w.heap.size + 1, 1, none⟩) (fun _ => rfl) _).setCell (p := ⟨w.heap.size + 1, 2, none⟩) (fun _ => rfl) _) (fun a ha _ e => ?_)
        rcases (HF2.out a ha).1 with h | h
        · have := hp a h; omega
        · have := HSZ.out; omega
      · rcases (HF2.out a ha).1 with h | h
        · exact .inl h
        · exact .inr (by have := HSZ.out; omega)
      · have := (HF2.out a ha).2; simpa [World.setCell] using this
    · exact ((HB2.out.setCell (by simp) _).setCell (by simp) _).setCell (by simp) _

set_option maxRecDepth 100000 in
set_option maxHeartbeats 400000 in
theorem num_bad (room : Nat) (p : Option Addr) (n c : Nat) (l : List UInt8) (bad : Int) (x : Nat) (width : Int) (w : World) (hB : Bs w p n c l) (hx : x < 18446744073709551616) (hw1 : -9223372036854775808 ≤ width) (hw2 : width ≤ 9223372036854775807)
    (hno : ¬ (1 ≤ width ∧ width ≤ 8 ∧ (width = 8 ∨ x < 2 ^ (8 * width.toNat)))) (hp : ∀ a, p = some a → a.block < w.heap.size) :
    Calls Try.prog 21 #[rv (room : Int) p n c bad, .int .u64 (x : Int), .int .i64 width] w fun e w' => RLeft room p (l, if bad = 0 then 1 else bad) e w w' ∧ Below w.heap.size w w' := by
  have HB := Lib.hid hB
  clear hB
  have HR := Lib.hid (show ∀ e w', (e = .returned (rv (room : Int) p n c (if bad = 0 then 1 else bad)) ∧ Below w.heap.size w w') → RLeft room p (l, if bad = 0 then 1 else bad) e w w' ∧ Below w.heap.size w w' from
    fun e w' h => ⟨⟨p, n, c, h.1, HB.out.below h.2, fun a ha => ⟨.inl ha, by have := hp a ha; have := h.2.size; omega⟩⟩, h.2⟩)
  generalize hbad : (if bad = 0 then (1 : Int) else bad) = bad' at *
  have HBAD := Lib.hid hbad
  clear hbad
  suffices H : Calls Try.prog 21 #[rv (room : Int) p n c bad, .int .u64 (x : Int), .int .i64 width] w fun e w' => e = .returned (rv (room : Int) p n c bad') ∧ Below w.heap.size w w' from H.mono HR.out
  by_cases hlo : width < 1
  · clear hno
    go_enter Try.func21, Try.ntmps21
    go_wp2_with fail
    refine (fail_any _ _ _ _ _ _ _).mono ?_
    rintro e w1 ⟨rfl, hb1⟩
    rw [HBAD.out]
    have e1 := Below.keepOld hb1 (heap_alloc2_new _ _ _)
    obtain ⟨c10, c11, c12, f10, f11, f12⟩ := rw_cells e1
    have e2 := heap_setCell_same _ (w.heap.size + 1) 2 _ _ (.int .i64 bad') (heap_setCell_same _ (w.heap.size + 1) 1 _ _ (.slice p n c) (heap_setCell_same _ (w.heap.size + 1) 0 _ _ (.int .i64 (room : Int)) e1))
    have E2 := Lib.hid e2
    have HB1 : Hid (Below w.heap.size w w1) := ((Below.allocs _ _).alloc (by simp) _).trans (hb1.mono (by simp; omega))
    clear hb1 e1 e2
    go_wp2_with fail
    refine bodyPost_ret (results_cell_row rfl _ _ _ _ _ _ _ rfl E2.out Try.underlying48 rfl (by kernel_rfl)) rfl ⟨rfl, ?_⟩
    exact ((HB1.out.setCell (by simp) _).setCell (by simp) _).setCell (by simp) _
  by_cases hhi : 8 < width
  · clear hno
    go_enter Try.func21, Try.ntmps21
    go_wp2_with fail
    refine (fail_any _ _ _ _ _ _ _).mono ?_
    rintro e w1 ⟨rfl, hb1⟩
    rw [HBAD.out]
    have e1 := Below.keepOld hb1 (heap_alloc2_new _ _ _)
    obtain ⟨c10, c11, c12, f10, f11, f12⟩ := rw_cells e1
    have e2 := heap_setCell_same _ (w.heap.size + 1) 2 _ _ (.int .i64 bad') (heap_setCell_same _ (w.heap.size + 1) 1 _ _ (.slice p n c) (heap_setCell_same _ (w.heap.size + 1) 0 _ _ (.int .i64 (room : Int)) e1))
    have E2 := Lib.hid e2
    have HB1 : Hid (Below w.heap.size w w1) := ((Below.allocs _ _).alloc (by simp) _).trans (hb1.mono (by simp; omega))
    clear hb1 e1 e2
    go_wp2_with fail
    refine bodyPost_ret (results_cell_row rfl _ _ _ _ _ _ _ rfl E2.out Try.underlying48 rfl (by kernel_rfl)) rfl ⟨rfl, ?_⟩
    exact ((HB1.out.setCell (by simp) _).setCell (by simp) _).setCell (by simp) _
  · obtain ⟨m, rfl⟩ : ∃ m : Nat, width = (m : Int) := ⟨width.toNat, by omega⟩
    have hm8 : m < 8 := by
      rcases Nat.lt_or_ge m 8 with h | h
      · exact h
      · exact absurd ⟨by omega, by omega, .inl (by omega)⟩ hno
    have hge : 2 ^ (8 * m) ≤ x := by
      rcases Nat.lt_or_ge x (2 ^ (8 * m)) with h | h
      · exact absurd ⟨by omega, by omega, .inr (by rw [Int.toNat_natCast]; exact h)⟩ hno
      · exact h
    have hle8 : (2 : Nat) ^ (8 * m) ≤ 2 ^ 56 := Nat.pow_le_pow_right (by omega) (by omega)
    have hwr : IntKind.u64.wrap (2 ^ (8 * m)) = ((2 ^ (8 * m) : Nat) : Int) := by
      rw [IntKind.wrap_u64, ← show ((2 ^ (8 * m) : Nat) : Int) = (2 : Int) ^ (8 * m) from Int.natCast_pow 2 _]
      have key : ∀ q : Nat, q ≤ 2 ^ 56 → (q : Int) % 18446744073709551616 = (q : Int) := by intro q hq; omega
      exact key _ hle8
    clear hno hle8
    generalize 2 ^ (8 * m) = PW at *
    have hdx : decide (PW ≤ x) = true := by simp; omega
    go_enter Try.func21, Try.ntmps21
    go_wp2_with fail
    refine (fail_any _ _ _ _ _ _ _).mono ?_
    rintro e w1 ⟨rfl, hb1⟩
    rw [HBAD.out]
    have e1 := Below.keepOld hb1 (heap_alloc2_new _ _ _)
    obtain ⟨c10, c11, c12, f10, f11, f12⟩ := rw_cells e1
    have e2 := heap_setCell_same _ (w.heap.size + 1) 2 _ _ (.int .i64 bad') (heap_setCell_same _ (w.heap.size + 1) 1 _ _ (.slice p n c) (heap_setCell_same _ (w.heap.size + 1) 0 _ _ (.int .i64 (room : Int)) e1))
    have E2 := Lib.hid e2
    have HB1 : Hid (Below w.heap.size w w1) := ((Below.allocs _ _).alloc (by simp) _).trans (hb1.mono (by simp; omega))
    clear hb1 e1 e2
    go_wp2_with fail
    refine bodyPost_ret (results_cell_row rfl _ _ _ _ _ _ _ rfl E2.out Try.underlying48 rfl (by kernel_rfl)) rfl ⟨rfl, ?_⟩
    exact ((HB1.out.setCell (by simp) _).setCell (by simp) _).setCell (by simp) _

end Go.Proofs.Ythgaadnbmiekkaa.RW
