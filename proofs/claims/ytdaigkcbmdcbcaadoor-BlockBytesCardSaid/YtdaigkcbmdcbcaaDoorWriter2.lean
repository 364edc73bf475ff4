/- THE WALKS OF THE WRITER, on: put with any fault, Bytes, Id, Hint, Ids, Num, New, Len, Err, Done. Conditions: as in the first part. -/
import Derived.Test.YtdaigkcbmdcbcaaDoorWriter
namespace Go.Proofs.YtdaigkcbmdcbcaaDoor.Wr
open Go.RowKit Go.Mir Go.Mir.Parts

theorem Left.refl {w : World} {wb : Nat} {v : Value} {room : Nat} {l : List UInt8} {bad : Int} (h : WAt w wb v room l bad) : Left wb v room (l, bad) w w := ⟨v, h, Turns.refl _ _, fun _ hk _ => hk⟩

theorem put_any (p : Option Addr) (n c : Nat) (ls : List (List UInt8)) (wb : Nat) (v : Value) (room : Nat) (l : List UInt8) (bad : Int) (fits : Bool) (w : World) (h : WAt w wb v room l bad)
    (hP : ∀ w', Turns (foot wb v) w w' → Pts w' p n c ls) (hs : total ls ≤ 70368744177664) (hl : l.length ≤ 70368744177664) :
    Calls Tryd.prog 52 #[.pointer (some ⟨wb, 0, none⟩), .bool fits, .slice p n c] w fun e w' => e = .returned (.tuple #[]) ∧ Left wb v room (putS room l bad fits ls) w w' := by
  by_cases hb : bad = 0
  · subst hb
    exact put_sum p n c ls wb v room l fits w h hP hs hl
  · obtain ⟨c0, c1, c2, c3, f2, f3⟩ := h.cells
    have hb' : (bad != 0) = true := by simp [hb]
    have HL : Hid (Left wb v room (putS room l bad fits ls) w w) := by
      show Left _ _ _ _ _ _
      rw [putS, if_neg hb]; exact Left.refl h
    clear h hP
    go_enter Tryd.func52, Tryd.ntmps52
    go_wp2_with (go_at_call 59; refine (none_made _ _ c0).mono ?_; rintro e w' ⟨rfl, rfl⟩)
    refine bodyPost_ret (results_none rfl _ _ _) rfl ?_
    exact ⟨rfl, HL.out⟩

/-- what a part's slices in a new row are, while the writer's own blocks turn -/
theorem stable1 {w : World} {S : Nat → Prop} {p : Option Addr} {n c b : Nat} {l : List UInt8} (hB : ∀ w', Turns S w w' → Bs w' p n c l) (hS : ∀ k, S k → k < w.heap.size) (t : TypeId) (hb : b = w.heap.size) :
    ∀ w', Turns S (w.alloc (.cells #[.slice p n c] t)) w' → Pts w' (some ⟨b, 0, none⟩) 1 1 [l] := by
  intro w' ht
  subst hb
  have hT : Turns S w w' := ((Turns.refl S w).alloc _).trans ht (fun _ _ h => h)
  have hrow : w'.heap[w.heap.size]? = some (.cells #[.slice p n c] t) := ht.keep (heap_alloc_last _ _) (fun h => by have := hS _ h; omega)
  refine ⟨rfl, Nat.le_refl _, by omega, fun h => (by cases h), fun a ha j hj => ?_⟩
  obtain rfl := Option.some.inj ha
  obtain rfl : j = 0 := by simp at hj; omega
  exact ⟨p, n, c, by rw [add_none, cell_of_row _ _ _ _ _ _ hrow]; rfl, hB w' hT⟩

theorem Left.alloc {w : World} {wb : Nat} {v : Value} {room : Nat} {r : List UInt8 × Int} {o : Obj} {w' : World} (h : Left wb v room r (w.alloc o) w') : Left wb v room r w w' := by
  obtain ⟨v', h1, h2, h3⟩ := h
  exact ⟨v', h1, ((Turns.refl _ w).alloc o).trans h2 (fun _ _ h => h), fun k hk hlt => h3 k hk (by simp; omega)⟩
theorem WAt.alloc {w : World} {wb : Nat} {v : Value} {room : Nat} {l : List UInt8} {bad : Int} (h : WAt w wb v room l bad) (o : Obj) : WAt (w.alloc o) wb v room l bad :=
  h.touch (S := fun _ => False) ((Turns.refl _ w).alloc o) (fun _ _ h => h)

theorem bytes_any (p : Option Addr) (n c : Nat) (b : List UInt8) (wb : Nat) (v : Value) (room : Nat) (l : List UInt8) (bad : Int) (w : World) (h : WAt w wb v room l bad)
    (hB : ∀ w', Turns (foot wb v) w w' → Bs w' p n c b) (hs : b.length ≤ 70368744177664) (hl : l.length ≤ 70368744177664) :
    Calls Tryd.prog 43 #[.pointer (some ⟨wb, 0, none⟩), .slice p n c] w fun e w' => e = .returned (.tuple #[]) ∧ Left wb v room (putS room l bad true [b]) w w' := by
  have hle := (hB w (Turns.refl _ _)).le
  have hmax := (hB w (Turns.refl _ _)).max
  have HS := Lib.hid (fun t b hb => stable1 hB h.lt t hb (b := b))
  have HW := Lib.hid h
  clear hB h
  go_enter Tryd.func43, Tryd.ntmps43
  go_wp2_with (go_at_call 52; refine (put_any _ _ _ [b] wb v room l bad true _ (HW.out.alloc _) (HS.out _ _ rfl) (by simpa [total] using hs) hl).mono ?_; rintro e w1 ⟨rfl, hl1⟩)
  go_end0
  exact ⟨rfl, hl1.alloc⟩

theorem id_any (M : Array Value) (b : List UInt8) (hM : M.toList = bytesV b) (hb32 : b.length = 32) (wb : Nat) (v : Value) (room : Nat) (l : List UInt8) (bad : Int) (w : World) (h : WAt w wb v room l bad) (hl : l.length ≤ 70368744177664) :
    Calls Tryd.prog 30 #[.pointer (some ⟨wb, 0, none⟩), .agg M] w fun e w' => e = .returned (.tuple #[]) ∧ Left wb v room (putS room l bad true [b]) w w' := by
  have HS : Hid (∀ b' t, b' = (w.alloc (.cells M 23)).heap.size → ∀ w', Turns (foot wb v) ((w.alloc (.cells M 23)).alloc (.cells #[.slice (some ⟨w.heap.size, 0, none⟩) 32 32] t)) w' → Pts w' (some ⟨b', 0, none⟩) 1 1 [b]) := by
    intro b' t hb'
    refine stable1 (S := foot wb v) (fun w' ht => ?_) (fun k hk => by have := h.lt k hk; simp; omega) t hb'
    have hrow : w'.heap[w.heap.size]? = some (.cells M 23) := ht.keep (heap_alloc_last _ _) (fun hk => by have := h.lt _ hk; omega)
    exact ⟨by rw [bytesV_length, hb32], Nat.le_refl _, by omega, fun h => (by cases h), fun a ha j u hu => by
      obtain rfl := Option.some.inj ha
      rw [add_none, cell_of_row _ _ _ _ _ _ hrow, ← Array.getElem?_toList, hM, Nat.zero_add]; exact hu⟩
  have HW := Lib.hid h
  have htot : total [b] ≤ 70368744177664 := by simp [total, hb32]
  clear h hM
  go_enter Tryd.func30, Tryd.ntmps30
  go_wp2_with (go_at_call 52; refine (put_any _ _ _ [b] wb v room l bad true _ ((HW.out.alloc _).alloc _) (HS.out _ _ (by simp)) htot hl).mono ?_; rintro e w1 ⟨rfl, hl1⟩)
  go_end0
  exact ⟨rfl, hl1.alloc.alloc⟩

theorem hint_any (M : Array Value) (b : List UInt8) (hM : M.toList = bytesV b) (hb32 : b.length = 16) (wb : Nat) (v : Value) (room : Nat) (l : List UInt8) (bad : Int) (w : World) (h : WAt w wb v room l bad) (hl : l.length ≤ 70368744177664) :
    Calls Tryd.prog 42 #[.pointer (some ⟨wb, 0, none⟩), .agg M] w fun e w' => e = .returned (.tuple #[]) ∧ Left wb v room (putS room l bad true [b]) w w' := by
  have HS : Hid (∀ b' t, b' = (w.alloc (.cells M 40)).heap.size → ∀ w', Turns (foot wb v) ((w.alloc (.cells M 40)).alloc (.cells #[.slice (some ⟨w.heap.size, 0, none⟩) 16 16] t)) w' → Pts w' (some ⟨b', 0, none⟩) 1 1 [b]) := by
    intro b' t hb'
    refine stable1 (S := foot wb v) (fun w' ht => ?_) (fun k hk => by have := h.lt k hk; simp; omega) t hb'
    have hrow : w'.heap[w.heap.size]? = some (.cells M 40) := ht.keep (heap_alloc_last _ _) (fun hk => by have := h.lt _ hk; omega)
    exact ⟨by rw [bytesV_length, hb32], Nat.le_refl _, by omega, fun h => (by cases h), fun a ha j u hu => by
      obtain rfl := Option.some.inj ha
      rw [add_none, cell_of_row _ _ _ _ _ _ hrow, ← Array.getElem?_toList, hM, Nat.zero_add]; exact hu⟩
  have HW := Lib.hid h
  have htot : total [b] ≤ 70368744177664 := by simp [total, hb32]
  clear h hM
  go_enter Tryd.func42, Tryd.ntmps42
  go_wp2_with (go_at_call 52; refine (put_any _ _ _ [b] wb v room l bad true _ ((HW.out.alloc _).alloc _) (HS.out _ _ (by simp)) htot hl).mono ?_; rintro e w1 ⟨rfl, hl1⟩)
  go_end0
  exact ⟨rfl, hl1.alloc.alloc⟩


theorem err_any (wb : Nat) (v : Value) (room : Nat) (l : List UInt8) (bad : Int) (w : World) (h : WAt w wb v room l bad) :
    Calls Tryd.prog 53 #[.pointer (some ⟨wb, 0, none⟩)] w fun e w' => e = .returned (.int .i64 bad) ∧ w = w' := by
  obtain ⟨c0, c1, c2, c3, f2, f3⟩ := h.cells
  clear h
  go_enter Tryd.func53, Tryd.ntmps53
  go_wp2_with (go_at_call 59; refine (none_made _ _ c0).mono ?_; rintro e w' ⟨rfl, rfl⟩)
  go_ret
  exact ⟨rfl, rfl⟩

theorem done_any (wb : Nat) (v : Value) (room : Nat) (l : List UInt8) (bad : Int) (w : World) (h : WAt w wb v room l bad) (hl : l.length ≤ 140737488355328) :
    Calls Tryd.prog 33 #[.pointer (some ⟨wb, 0, none⟩)] w fun e w' =>
      (∃ p n c, e = .returned (.tuple #[.slice p n c, .int .i64 bad]) ∧ w'.ownsRow w.heap.size 5 1 (.slice p n c) n (bytesV (if bad = 0 then l else []))) ∧ Below w.heap.size w w' := by
  obtain ⟨pv, cv, hv, hsv⟩ := own_sl h.own
  subst hv
  obtain ⟨c0, c1, c2, c3, f2, f3⟩ := h.cells
  have HW := Lib.hid h
  have HV := Lib.hid hsv
  clear h hsv
  by_cases hb : bad = 0
  · subst hb
    have hbd : Hid (0 + l.length ≤ 9223372036854775807 ∧ (0 + l.length) * 1 ≤ 140737488355328) := by
      show _ ∧ _; omega
    go_enter Tryd.func33, Tryd.ntmps33
    go_wp2_with (first | (go_at_call 53; refine (err_any _ _ _ _ _ _ HW.out).mono ?_; rintro e w' ⟨rfl, rfl⟩) | (at_builtin; refine wpList_append_nx rfl _ _ 29 rfl (base := w.heap.size) Tryd.underlying29 infoB rfl (by omega) rfl (World.ownsRow_nil _ _ _ _) rfl HV.out (bytesV_one _) hbd.out (Nat.le_refl _) ?_))
    intro p' c' w1 hown hg hnx hne
    have HO : Hid (w1.ownsRow w.heap.size 5 1 (.slice p' (0 + l.length) c') (0 + l.length) (bytesV (if (0 : Int) = 0 then l else []))) := by
      show World.ownsRow _ _ _ _ _ _ _
      simpa using hown
    have HG : Hid (Below w.heap.size w w1) := (Below.refl _ _).grown hg (Nat.le_refl _) (fun k hk => by simp [Value.ownBlock] at hk)
    clear hown hg hnx hne
    go_wp2
    go_ret2
    refine ⟨⟨p', _, c', rfl, ?_⟩, HG.out⟩
    have := HO.out
    rw [Nat.zero_add] at this
    exact this
  · have hb' : (bad != 0) = true := by simp [hb]
    go_enter Tryd.func33, Tryd.ntmps33
    go_wp2_with (go_at_call 53; refine (err_any _ _ _ _ _ _ HW.out).mono ?_; rintro e w' ⟨rfl, rfl⟩)
    go_ret2
    have ho : w.ownsRow w.heap.size 5 1 (.slice none 0 0) 0 (bytesV (if bad = 0 then l else [])) := by rw [if_neg hb]; exact World.ownsRow_nil _ _ _ _
    exact ⟨⟨none, 0, 0, rfl, by simpa [hb] using ho⟩, Below.refl _ _⟩

theorem new_any (room : Int) (w : World) (hr : room ≤ 9223372036854775807) :
    Calls Tryd.prog 29 #[.int .i64 room] w fun e w' => e = .returned (.pointer (some ⟨w.heap.size, 0, none⟩)) ∧ WAt w' w.heap.size (.slice none 0 0) room.toNat [] 0 ∧ Below w.heap.size w w' := by
  have key : Hid (∀ x : Int, x = (room.toNat : Int) → WAt (w.alloc (.cells #[.bool true, .int .i64 x, .slice none 0 0, .int .i64 0] 78)) w.heap.size (.slice none 0 0) room.toNat [] 0) := by
    intro x hx
    subst hx
    exact ⟨heap_alloc_last _ _, World.ownsRow_nil _ _ _ _, by simp [Value.ownBlock], by simp, by omega⟩
  go_enter Tryd.func29, Tryd.ntmps29
  go_wp2
  all_goals
    go_ret
    exact ⟨rfl, key.out _ (by omega), Below.allocs _ _⟩

end Go.Proofs.YtdaigkcbmdcbcaaDoor.Wr
