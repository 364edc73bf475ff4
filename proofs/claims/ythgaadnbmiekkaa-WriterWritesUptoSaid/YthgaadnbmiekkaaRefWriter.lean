/- THE WALKS OF THE REFERENCE's WRITER (a plain value). Conditions: sizes that fit. -/
import Derived.Test.YthgaadnbmiekkaaWriter3
namespace Go.Proofs.Ythgaadnbmiekkaa.RW
open Go.RowKit Go.Mir Go.Mir.Parts Wr

/-- the reference's writer, as a value -/
abbrev rv (room : Int) (p : Option Addr) (n c : Nat) (bad : Int) : Value := .agg #[.int .i64 room, .slice p n c, .int .i64 bad]

theorem fail_any (room : Int) (p : Option Addr) (n c : Nat) (bad e0 : Int) (w : World) :
    Calls Try.prog 25 #[rv room p n c bad, .int .i64 e0] w fun e w' => e = .returned (rv room p n c (if bad = 0 then e0 else bad)) ∧ Below w.heap.size w w' := by
  by_cases hb : bad = 0
  · subst hb
    go_enter Try.func25, Try.ntmps25
    go_wp2
    refine bodyPost_ret (v := rv room p n c e0) (by simp [results, Try.results25, go_sem, rv]) rfl ⟨rfl, ?_⟩
    exact (((Below.allocs _ _).alloc (by simp) _))
  · have hb' : (bad == 0) = false := by simp [hb]
    go_enter Try.func25, Try.ntmps25
    go_wp2
    refine bodyPost_ret (v := rv room p n c bad) (by simp [results, Try.results25, go_sem, rv]) rfl ⟨by first | rfl | (rw [if_neg hb]; rfl) | rw [if_neg hb], ?_⟩
    exact (((Below.allocs _ _).alloc (by simp) _))

theorem new_any (room : Int) (w : World) :
    Calls Try.prog 16 #[.int .i64 room] w fun e w' => e = .returned (rv (room.toNat : Int) none 0 0 0) ∧ Below w.heap.size w w' := by
  have h0 : Hid (room < 0 → (room.toNat : Int) = 0) := fun h => by omega
  have h1 : Hid (0 ≤ room → (room.toNat : Int) = room) := fun h => by omega
  generalize (room.toNat : Int) = R at *
  by_cases hr : room < 0
  · go_enter Try.func16, Try.ntmps16
    go_wp2
    refine bodyPost_ret (v := rv 0 none 0 0 0) (by simp [results, Try.results16, go_sem, rv]) rfl ⟨by rw [h0.out hr], ?_⟩
    exact Below.allocs _ _
  · go_enter Try.func16, Try.ntmps16
    go_wp2
    refine bodyPost_ret (v := rv room none 0 0 0) (by simp [results, Try.results16, go_sem, rv]) rfl ⟨by rw [h1.out (by omega)], ?_⟩
    exact Below.allocs _ _

theorem done_any (room : Int) (p : Option Addr) (n c : Nat) (bad : Int) (w : World) :
    Calls Try.prog 18 #[rv room p n c bad] w fun e w' => e = .returned (if bad = 0 then .tuple #[.slice p n c, .int .i64 0] else .tuple #[.slice none 0 0, .int .i64 bad]) ∧ Below w.heap.size w w' := by
  by_cases hb : bad = 0
  · subst hb
    go_enter Try.func18, Try.ntmps18
    go_wp2
    go_ret2
    exact ⟨rfl, Below.allocs _ _⟩
  · have hb' : (bad != 0) = true := by simp [hb]
    go_enter Try.func18, Try.ntmps18
    go_wp2
    go_region
    go_wp2
    go_ret2
    exact ⟨by first | rfl | (rw [if_neg hb]; rfl) | rw [if_neg hb], (Below.allocs _ _).drew⟩

/-- what is held behind the reference's Bytes -/
def bytesR (room : Nat) (l : List UInt8) (bad : Int) (b : List UInt8) : List UInt8 × Int :=
  if bad = 0 then (if l.length + b.length ≤ room then (l ++ b, 0) else (l, 3)) else (l, bad)

/-- a reference's writer as a call leaves it -/
def RLeft (room : Nat) (p : Option Addr) (r : List UInt8 × Int) (e : Ending) (w w' : World) : Prop :=
  ∃ p' n' c', e = .returned (rv (room : Int) p' n' c' r.2) ∧ Bs w' p' n' c' r.1 ∧ (∀ a, p' = some a → (p = some a ∨ w.heap.size ≤ a.block) ∧ a.block < w'.heap.size)

set_option maxRecDepth 100000 in
set_option maxHeartbeats 400000 in
theorem bytes_any (room : Nat) (p q : Option Addr) (n c m d : Nat) (l b : List UInt8) (bad : Int) (w : World) (hB : Bs w p n c l) (hQ : Bs w q m d b) (hr : room ≤ 9223372036854775807) (hl : n + m ≤ 140737488355328) (hp : ∀ a, p = some a → a.block < w.heap.size) :
    Calls Try.prog 22 #[rv (room : Int) p n c bad, .slice q m d] w fun e w' => RLeft room p (bytesR room l bad b) e w w' ∧ Below w.heap.size w w' := by
  have hn := hB.length
  have hm := hQ.length
  have hle := hB.le
  have hmax := hB.max
  have hle' := hQ.le
  have hmax' := hQ.max
  have HB := Lib.hid hB
  have HQ := Lib.hid hQ
  clear hB hQ
  by_cases hb : bad = 0
  · subst hb
    by_cases hf : n + m ≤ room
    · have hd : decide ((room : Int) < (n : Int) + (m : Int)) = false := by simp; omega
      have hR : Hid (bytesR room l 0 b = (l ++ b, 0)) := by show _ = _; rw [bytesR, if_pos rfl, if_pos (by omega)]
      have hbd1 : Hid (0 + n ≤ 9223372036854775807 ∧ (0 + n) * 1 ≤ 140737488355328) := by show _ ∧ _; omega
      have hbd2 : Hid (n + m ≤ 9223372036854775807 ∧ (n + m) * 1 ≤ 140737488355328) := by show _ ∧ _; omega
      go_enter Try.func22, Try.ntmps22
      go_wp2_with (at_builtin; refine wpList_append_nx rfl _ _ 23 rfl (base := w.heap.size) Try.underlying23 infoB rfl (by omega) rfl (own_made0 _ _ _ _ _ (by simp) (by omega)) rfl (HB.out.below (((Below.allocs _ _).alloc (by simp) _).alloc (by simp; omega) _)) (bytesV_one _) hbd1.out (by simp; omega) ?_)
      intro p1 c1 w1 hown hg hnx hne
      have HO := Lib.hid hown
      have HB1 : Hid (Below w.heap.size w w1) := (((Below.allocs _ _).alloc (by simp) _).alloc (by simp; omega) _).trans ((Below.refl _ _).grown hg (by simp; omega) (fun k hk => by simp [Value.ownBlock] at hk; omega))
      have hg0 : w1.heap[w.heap.size]? = some (.cells #[.int .i64 (room : Int), .slice p n c, .int .i64 0] 48 (0, 0)) := by
        rw [hg.block _ (by simp; omega) (by simp [Value.ownBlock]; try omega)]
        exact block_old _ (heap_alloc2_old _ _ _)
      have HG0 := Lib.hid hg0
      have hg1 : w1.heap[w.heap.size + 1]? = some (.cells #[.int .i64 0, .slice none 0 0, .int .i64 0] 48 (0, 0)) := by
        rw [hg.block _ (by simp) (by simp [Value.ownBlock]; try omega)]
        exact block_old _ (heap_alloc2_new _ _ _)
      have HG1 := Lib.hid hg1
      have HNX := Lib.hid hnx
      clear hown hg hnx hne hg0 hg1
      go_wp2_with (at_builtin; refine wpList_append_nx rfl _ _ 23 rfl (base := w.heap.size) Try.underlying23 infoB rfl (by omega) rfl HO.out rfl (HQ.out.below HB1.out) (bytesV_one _) hbd2.out HB1.out.size ?_)
      intro p2 c2 w2 hown2 hg2 hnx2 hne2
      have hp1 : ∀ k, (Value.slice p1 n c1).ownBlock = some k → w.heap.size + 2 ≤ k := by
        intro k hk
        rcases HNX.out k hk with h | h
        · simp [Value.ownBlock] at h; omega
        · omega
      have e0 : w2.heap[w.heap.size]? = some (.cells #[.int .i64 (room : Int), .slice p n c, .int .i64 0] 48 (0, 0)) := by
        rw [hg2.block _ (Array.getElem?_eq_some_iff.1 HG0.out).1 (fun e => by have := hp1 _ e.symm; omega)]; exact HG0.out
      have e1 : w2.heap[w.heap.size + 1]? = some (.cells #[.int .i64 0, .slice none 0 0, .int .i64 0] 48 (0, 0)) := by
        rw [hg2.block _ (Array.getElem?_eq_some_iff.1 HG1.out).1 (fun e => by have := hp1 _ e.symm; omega)]; exact HG1.out
      have c00 : w2.cell? ⟨w.heap.size, 0, none⟩ = some (.int .i64 (room : Int)) := by rw [cell_of_row _ _ _ _ _ _ e0]; rfl
      have c01 : w2.cell? ⟨w.heap.size, 1, none⟩ = some (.slice p n c) := by rw [cell_of_row _ _ _ _ _ _ e0]; rfl
      have c02 : w2.cell? ⟨w.heap.size, 2, none⟩ = some (.int .i64 0) := by rw [cell_of_row _ _ _ _ _ _ e0]; rfl
      have f0 := frozen_of_row _ _ 1 _ _ e0
      have c10 : w2.cell? ⟨w.heap.size + 1, 0, none⟩ = some (.int .i64 0) := by rw [cell_of_row _ _ _ _ _ _ e1]; rfl
      have c11 : w2.cell? ⟨w.heap.size + 1, 1, none⟩ = some (.slice none 0 0) := by rw [cell_of_row _ _ _ _ _ _ e1]; rfl
      have c12 : w2.cell? ⟨w.heap.size + 1, 2, none⟩ = some (.int .i64 0) := by rw [cell_of_row _ _ _ _ _ _ e1]; rfl
      have f10 := frozen_of_row _ _ 0 _ _ e1
      have f11 := frozen_of_row _ _ 1 _ _ e1
      have f12 := frozen_of_row _ _ 2 _ _ e1
      have HO2 := Lib.hid hown2
      have HNX2 := Lib.hid hnx2
      have HB2 : Hid (Below w.heap.size w w2) := HB1.out.trans ((Below.refl _ _).grown hg2 HB1.out.size (fun k hk => by have := hp1 k hk; omega))
      have hsz1 := HB1.out.size
      have hsz2 : Hid (w.heap.size + 2 ≤ w1.heap.size) := (Array.getElem?_eq_some_iff.1 HG1.out).1
      have HP2 : Hid (∀ k, (Value.slice p2 (n + m) c2).ownBlock = some k → ¬ (k = w.heap.size ∨ k = w.heap.size + 1)) := by
        intro k hk
        have := hsz2.out
        rcases hnx2 k hk with h | h
        · have := hp1 k h; omega
        · omega
      clear hown2 hg2 hnx2 hne2 e0 e1 hp1
      go_wp2
      refine bodyPost_ret (v := rv (room : Int) p2 (n + m) c2 0) (by simp [results, Try.results22, go_sem, rv, c10, c11, c12, c00, c02]) rfl ⟨?_, ?_⟩
      · have ho := own_touch HO2.out (((((Turns.refl (fun k => k = w.heap.size ∨ k = w.heap.size + 1) w2).setCell (p := ⟨w.heap.size, 1, none⟩) (fun _ => .inl rfl) (.slice p2 (n + m) c2)).setCell (p := ⟨w.heap.size + 1, 0, none⟩) (fun _ => .inr rfl) (.int .i64 (room : Int))).setCell (p := ⟨w.heap.size + 1, 1, none⟩) (fun _ => .inr rfl) (.slice p2 (n + m) c2)).setCell (p := ⟨w.heap.size + 1, 2, none⟩) (fun _ => .inr rfl) (.int .i64 0)) HP2.out
        obtain ⟨p3, c3, h3, hs3⟩ := own_sl ho
        cases h3
        rw [hR.out]
        exact ⟨p2, n + m, c2, rfl, by rw [← bytesV_append] at hs3; exact hs3, fun a ha => by
          have := HO2.out.lt a.block (by rw [ha]; rfl)
          exact ⟨.inr this.1, by simpa [World.setCell] using this.2⟩⟩
      · exact (((HB2.out.setCell (Nat.le_refl _) _).setCell (by simp) _).setCell (by simp) _).setCell (by simp) _
    · have hd : decide ((room : Int) < (n : Int) + (m : Int)) = true := by simp; omega
      have hR : Hid (bytesR room l 0 b = (l, 3)) := by show _ = _; rw [bytesR, if_pos rfl, if_neg (by omega)]
      go_enter Try.func22, Try.ntmps22
      go_wp2_with fail
      refine (fail_any _ _ _ _ _ _ _).mono ?_
      rintro e w1 ⟨rfl, hb1⟩
      have e1 : w1.heap[w.heap.size + 1]? = some (.cells #[.int .i64 0, .slice none 0 0, .int .i64 0] 48 (0, 0)) := Below.keepOld hb1 (heap_alloc2_new _ _ _)
      have c10 : w1.cell? ⟨w.heap.size + 1, 0, none⟩ = some (.int .i64 0) := by rw [cell_of_row _ _ _ _ _ _ e1]; rfl
      have c11 : w1.cell? ⟨w.heap.size + 1, 1, none⟩ = some (.slice none 0 0) := by rw [cell_of_row _ _ _ _ _ _ e1]; rfl
      have c12 : w1.cell? ⟨w.heap.size + 1, 2, none⟩ = some (.int .i64 0) := by rw [cell_of_row _ _ _ _ _ _ e1]; rfl
      have f10 := frozen_of_row _ _ 0 _ _ e1
      have f11 := frozen_of_row _ _ 1 _ _ e1
      have f12 := frozen_of_row _ _ 2 _ _ e1
      have HB1 : Hid (Below w.heap.size w w1) := ((Below.allocs _ _).alloc (by simp) _).trans (hb1.mono (by simp; omega))
      clear hb1 e1
      go_wp2_with fail
      refine bodyPost_ret (v := rv (room : Int) p n c 3) (by simp [results, Try.results22, go_sem, rv, c10, c11, c12]) rfl ⟨?_, ?_⟩
      · rw [hR.out]
        exact ⟨p, n, c, rfl, ((HB.out).touch ((Turns.of_below HB1.out).trans ((((Turns.refl (fun k => k = w.heap.size + 1) w1).setCell (p := ⟨w.heap.size + 1, 0, none⟩) (fun _ => rfl) _).setCell (p := ⟨w.heap.size + 1, 1, none⟩) (fun _ => rfl) _).setCell (p := ⟨w.heap.size + 1, 2, none⟩) (fun _ => rfl) _) (fun _ _ h => h)) (fun a ha hlt => by have := hp a ha; omega)), fun a ha => ⟨.inl ha, by have := hp a ha; have := HB1.out.size; simp [World.setCell]; omega⟩⟩
      · exact ((HB1.out.setCell (by simp) _).setCell (by simp) _).setCell (by simp) _
  · have hb' : (bad != 0) = true := by simp [hb]
    have hR : Hid (bytesR room l bad b = (l, bad)) := by show _ = _; rw [bytesR, if_neg hb]
    go_enter Try.func22, Try.ntmps22
    go_wp2
    refine bodyPost_ret (v := rv (room : Int) p n c bad) (by simp [results, Try.results22, go_sem, rv]) rfl ⟨?_, (Below.allocs _ _).alloc (by simp) _⟩
    rw [hR.out]
    exact ⟨p, n, c, rfl, HB.out.below ((Below.allocs _ _).alloc (by simp) _), fun a ha => ⟨.inl ha, by have := hp a ha; simp; omega⟩⟩

end Go.Proofs.Ythgaadnbmiekkaa.RW
