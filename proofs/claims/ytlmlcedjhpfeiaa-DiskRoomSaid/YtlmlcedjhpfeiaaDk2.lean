/- THE WALKS OF A DISK: none, at, burn, Used, Room, Fuse, Down, Arm, New. Conditions: none. -/
import Derived.Test.YtlmlcedjhpfeiaaDk
import Derived.BigQuiet
namespace Go.Proofs.Ytlmlcedjhpfeiaa.Dk
open Go.RowKit Go.Mir

theorem none_any {base db : Nat} {vs : List FV} {d : DD} (w : World) (h : DAt w base db vs d) : Calls Try.prog 28 #[.pointer (some ⟨db, 0, none⟩)] w fun e w' => e = .returned (.bool false) ∧ w = w' := by
  have hc := h.cells.1
  have hr : ((d.room : Int) == 0) = false := by rw [beq_eq_false_iff_ne]; have := h.room1; omega
  clear h
  go_enter Try.func28, Try.ntmps28
  go_wp2_with fail
  go_ret
  exact ⟨rfl, rfl⟩
theorem at_in {base db : Nat} {vs : List FV} {d : DD} (w : World) (h : DAt w base db vs d) (i : Nat) (hi : i < 3) : Calls Try.prog 30 #[.pointer (some ⟨db, 0, none⟩), .int .i64 (i : Int)] w fun e w' => e = .returned (.pointer (some ⟨db, i * 4, none⟩)) ∧ w = w' := by
  have H := Lib.hid h
  clear h
  have e1 : decide ((i : Int) < 0) = false := decide_eq_false (by omega)
  have e2 : decide ((3 : Int) ≤ (i : Int)) = false := decide_eq_false (by omega)
  have e3 : decide (3 ≤ i) = false := decide_eq_false (by omega)
  have hi1 : (i : Int) < 3 := by omega
  have hi0 : (0 : Int) ≤ (i : Int) := by omega
  go_enter Try.func30, Try.ntmps30
  go_wp2_with fail
  refine (none_any w H.out).mono ?_
  rintro e w' ⟨rfl, rfl⟩
  go_wp2_with fail
  go_ret
  exact ⟨by simp, rfl⟩
theorem at_out {base db : Nat} {vs : List FV} {d : DD} (w : World) (h : DAt w base db vs d) (n : Int) (hn : n < 0 ∨ 3 ≤ n) : Calls Try.prog 30 #[.pointer (some ⟨db, 0, none⟩), .int .i64 n] w fun e w' => e = .returned (.pointer none) ∧ w = w' := by
  have H := Lib.hid h
  clear h
  by_cases h0 : n < 0
  · have e1 : decide (n < 0) = true := decide_eq_true h0
    clear hn
    go_enter Try.func30, Try.ntmps30
    go_wp2_with fail
    refine (none_any w H.out).mono ?_
    rintro e w' ⟨rfl, rfl⟩
    go_wp2_with fail
    go_ret
    exact ⟨rfl, rfl⟩
  · have e1 : decide (n < 0) = false := decide_eq_false h0
    have h3 : (3 : Int) ≤ n := by omega
    have e2 : decide ((3 : Int) ≤ n) = true := decide_eq_true h3
    clear hn
    go_enter Try.func30, Try.ntmps30
    go_wp2_with fail
    refine (none_any w H.out).mono ?_
    rintro e w' ⟨rfl, rfl⟩
    go_wp2_with fail
    go_ret
    exact ⟨rfl, rfl⟩
/-- the fuse burns -/
def DD.burn (d : DD) : DD := if 0 < d.fuse then ⟨d.fs, d.room, d.fuse - 1, decide (d.fuse = 1)⟩ else d
/-- what else of a disk's stays, where its own row has turned -/
theorem DAt.reRow {w w' : World} {base db : Nat} {vs : List FV} {d : DD} {fuse : Nat} {down : Bool} (h : DAt w base db vs d) (ht : Turns (fun k => k = db) w w') (hr : w'.heap[db]? = some (.cells (dA vs d.room fuse down) 64 (0, 0))) (hf : fuse ≤ 9223372036854775807) : DAt w' base db vs ⟨d.fs, d.room, fuse, down⟩ := by
  have hid : ∀ k M fr, w.heap[k]? = some (.cells M 5 fr) → ¬ k = db := fun k M fr hk e => by
    subst e
    rw [h.row] at hk
    injection hk with e1
    injection e1 with _ e2
    exact absurd e2 (by decide)
  refine ⟨hr, h.low, h.n3, h.m3, fun i v f h1 h2 => (h.each i v f h1 h2).touch ht hid (fun k hk e => ?_), h.apart, h.room1, hf, h.used, h.few⟩
  obtain ⟨vals, ho, _⟩ := (h.each i v f h1 h2).steps
  exact own_ne_cells' ho h.row (by decide) k hk e
theorem cell_put {w : World} {db off : Nat} {M : Array Value} {t : TypeId} (v : Value) (h : w.heap[db]? = some (.cells M t (0, 0))) : (w.setCell ⟨db, off, none⟩ v).heap[db]? = some (.cells (M.setIfInBounds off v) t (0, 0)) := by rw [heap_setCell_same _ _ _ _ _ _ h]
theorem burn_any {base db : Nat} {vs : List FV} {d : DD} (w : World) (h : DAt w base db vs d) : Calls Try.prog 31 #[.pointer (some ⟨db, 0, none⟩)] w fun e w' => e = .returned (.bool d.burn.down) ∧ DAt w' base db vs d.burn ∧ Turns (fun k => k = db) w w' := by
  have H := Lib.hid h
  obtain ⟨_, hc1, hc2, hfz⟩ := h.cells
  have hf1 := h.fuse1
  clear h
  by_cases h0 : 0 < d.fuse
  · have e1 : decide ((0 : Int) < (d.fuse : Int)) = true := decide_eq_true (by omega)
    have e10 : decide (0 < d.fuse) = true := decide_eq_true h0
    have hw1 : IntKind.i64.wrap ((d.fuse : Int) - 1) = ((d.fuse - 1 : Nat) : Int) := by rw [IntWalk.i64_in _ (by omega)]; omega
    have hsb : (d.fuse : Int) - 1 = ((d.fuse - 1 : Nat) : Int) := by omega
    have e2 : (((d.fuse - 1 : Nat) : Int) == 0) = decide (d.fuse = 1) := by
      rw [Bool.eq_iff_iff, beq_iff_eq, decide_eq_true_iff]; omega
    have HB : Hid (d.burn = ⟨d.fs, d.room, d.fuse - 1, decide (d.fuse = 1)⟩) := by show _ = _; unfold DD.burn; rw [if_pos h0]
    have HLE : Hid (d.fuse - 1 ≤ 9223372036854775807) := by show _ ≤ _; omega
    have HF : Hid (DAt ((w.setCell ⟨db, 13, none⟩ (.int .i64 ((d.fuse - 1 : Nat) : Int))).setCell ⟨db, 14, none⟩ (.bool (decide (d.fuse = 1)))) base db vs d.burn) := by
      show DAt _ _ _ _ _
      rw [HB.out]
      refine H.out.reRow (((Turns.refl (fun k => k = db) w).setCell (p := ⟨db, 13, none⟩) (fun _ => rfl) _).setCell (p := ⟨db, 14, none⟩) (fun _ => rfl) _) ?_ HLE.out
      obtain ⟨s1, s2, _⟩ := dA_set H.out.n3 d.room d.fuse d.down
      obtain ⟨s1', s2', _⟩ := dA_set H.out.n3 d.room (d.fuse - 1) d.down
      have r2 := cell_put (off := 13) (.int .i64 ((d.fuse - 1 : Nat) : Int)) H.out.row
      rw [s1] at r2
      have r3 := cell_put (off := 14) (.bool (decide (d.fuse = 1))) r2
      rw [s2'] at r3
      exact r3
    have HT : Hid (Turns (fun k => k = db) w ((w.setCell ⟨db, 13, none⟩ (.int .i64 ((d.fuse - 1 : Nat) : Int))).setCell ⟨db, 14, none⟩ (.bool (decide (d.fuse = 1))))) := ((Turns.refl (fun k => k = db) w).setCell (p := ⟨db, 13, none⟩) (fun _ => rfl) _).setCell (p := ⟨db, 14, none⟩) (fun _ => rfl) _
    have HD : Hid (d.burn.down = decide (d.fuse = 1)) := by show _ = _; rw [HB.out]
    clear h0
    go_enter Try.func31, Try.ntmps31
    go_wp2_with fail
    go_ret
    exact ⟨by rw [HD.out]; rfl, HF.out, HT.out⟩
  · have e1 : decide ((0 : Int) < (d.fuse : Int)) = false := decide_eq_false (by omega)
    have e10 : decide (0 < d.fuse) = false := decide_eq_false h0
    have HB : Hid (d.burn = d) := by show _ = _; unfold DD.burn; rw [if_neg h0]
    clear h0
    go_enter Try.func31, Try.ntmps31
    go_wp2_with fail
    go_ret
    rw [HB.out]
    exact ⟨rfl, H.out, Turns.refl _ _⟩

set_option maxRecDepth 100000 in
theorem used_any {base db : Nat} {vs : List FV} {d : DD} (w : World) (h : DAt w base db vs d) : Calls Try.prog 22 #[.pointer (some ⟨db, 0, none⟩)] w fun e w' => e = .returned (.int .i64 (usedL d.fs : Int)) ∧ w = w' := by
  have H := Lib.hid h
  have hu := h.used
  have hr := h.room1
  have hm3 := h.m3
  have hn3 := h.n3
  clear h
  go_enter Try.func22, Try.ntmps22
  go_wp2_with fail
  refine (none_any w H.out).mono ?_
  rintro e w' ⟨rfl, rfl⟩
  go_wp2_with fail
  go_loop [3, 7] (fun a j => ∃ k : Nat, k ≤ 3 ∧ j = .int .i64 k ∧ a = .int .i64 (usedL (d.fs.take k) : Int)) (fun _ j => 3 - (intOf j).toNat)
  case atStart => exact ⟨0, by omega, rfl, rfl⟩
  case round =>
    obtain ⟨k, hk, rfl, rfl⟩ := hrel
    by_cases hlt : k < 3
    · have hd : decide ((k : Int) < 3) = true := decide_eq_true (by omega)
      have hd2 : decide (k < 3) = true := decide_eq_true (by omega)
      have hc := (H.out.file k (by omega)).2.2.2
      have hne : (vs[k]'(by omega)).nd = (d.fs[k]'(by omega)).need := (H.out.each k _ _ (List.getElem?_eq_getElem (by omega)) (List.getElem?_eq_getElem (by omega))).need
      rw [hne] at hc
      have HS := Lib.hid (usedL_take_succ (l := d.fs) (k := k) (by omega))
      have hle := usedL_take_le (l := d.fs) (k + 1)
      rw [HS.out] at hle
      generalize (d.fs[k]'(by omega)).need = nd at *
      generalize usedL (d.fs.take k) = acc at *
      have hk1 : (k : Int) < 3 := by omega
      have hk0 : (0 : Int) ≤ (k : Int) := by omega
      have hw1 : IntKind.i64.wrap ((acc : Int) + (nd : Int)) = (acc : Int) + (nd : Int) := IntWalk.i64_in _ (by omega)
      clear hne
      go_wp2_with fail
      go_round
      case rel => exact ⟨k + 1, by omega, by go_num, by rw [HS.out, Int.natCast_add]⟩
      case measure => simp [intOf]; omega
    · have hd : decide ((k : Int) < 3) = false := decide_eq_false (by omega)
      have hd2 : decide (k < 3) = false := decide_eq_false (by omega)
      have HT : Hid (d.fs.take k = d.fs) := by show _ = _; rw [List.take_of_length_le (by omega)]
      rw [HT.out]
      go_wp2_with fail
      go_ret
      exact ⟨rfl, rfl⟩
theorem fuse_any {base db : Nat} {vs : List FV} {d : DD} (w : World) (h : DAt w base db vs d) : Calls Try.prog 14 #[.pointer (some ⟨db, 0, none⟩)] w fun e w' => e = .returned (.int .i64 (d.fuse : Int)) ∧ w = w' := by
  have H := Lib.hid h
  have hc := h.cells.2.1
  clear h
  go_enter Try.func14, Try.ntmps14
  go_wp2_with fail
  refine (none_any w H.out).mono ?_
  rintro e w' ⟨rfl, rfl⟩
  go_wp2_with fail
  go_ret
  exact ⟨rfl, rfl⟩
theorem room_any {base db : Nat} {vs : List FV} {d : DD} (w : World) (h : DAt w base db vs d) : Calls Try.prog 27 #[.pointer (some ⟨db, 0, none⟩)] w fun e w' => e = .returned (.int .i64 (d.room : Int)) ∧ w = w' := by
  have H := Lib.hid h
  have hc := h.cells.1
  clear h
  go_enter Try.func27, Try.ntmps27
  go_wp2_with fail
  refine (none_any w H.out).mono ?_
  rintro e w' ⟨rfl, rfl⟩
  go_wp2_with fail
  go_ret
  exact ⟨rfl, rfl⟩
theorem down_any {base db : Nat} {vs : List FV} {d : DD} (w : World) (h : DAt w base db vs d) : Calls Try.prog 13 #[.pointer (some ⟨db, 0, none⟩)] w fun e w' => e = .returned (.bool d.down) ∧ w = w' := by
  have H := Lib.hid h
  have hc := h.cells.2.2.1
  clear h
  go_enter Try.func13, Try.ntmps13
  go_wp2_with fail
  refine (none_any w H.out).mono ?_
  rintro e w' ⟨rfl, rfl⟩
  go_wp2_with fail
  go_ret
  exact ⟨rfl, rfl⟩
/-- the fuse is set -/
theorem arm_any {base db : Nat} {vs : List FV} {d : DD} (w : World) (h : DAt w base db vs d) (n : Int) (hn : n ≤ 9223372036854775807) : Calls Try.prog 9 #[.pointer (some ⟨db, 0, none⟩), .int .i64 n] w fun e w' => e = .returned (.tuple #[]) ∧ DAt w' base db vs ⟨d.fs, d.room, n.toNat, d.down⟩ ∧ Turns (fun k => k = db) w w' := by
  have H := Lib.hid h
  obtain ⟨_, hc1, _, hfz⟩ := h.cells
  clear h
  have HT : Hid (Turns (fun k => k = db) w (w.setCell ⟨db, 13, none⟩ (.int .i64 (n.toNat : Int)))) := (Turns.refl (fun k => k = db) w).setCell (p := ⟨db, 13, none⟩) (fun _ => rfl) _
  have HF : Hid (DAt (w.setCell ⟨db, 13, none⟩ (.int .i64 (n.toNat : Int))) base db vs ⟨d.fs, d.room, n.toNat, d.down⟩) := by
    refine H.out.reRow HT.out ?_ (by omega)
    have := cell_put (off := 13) (.int .i64 (n.toNat : Int)) H.out.row
    rwa [(dA_set H.out.n3 d.room d.fuse d.down).1] at this
  by_cases h0 : 0 ≤ n
  · have e1 : decide (n < 0) = false := decide_eq_false (by omega)
    have hnt : (n.toNat : Int) = n := by omega
    rw [hnt] at HT HF
    go_enter Try.func9, Try.ntmps9
    go_wp2_with fail
    refine (none_any w H.out).mono ?_
    rintro e w' ⟨rfl, rfl⟩
    go_wp2_with fail
    go_end0
    exact ⟨rfl, HF.out, HT.out⟩
  · have h1 : n < 0 := by omega
    have e1 : decide (n < 0) = true := decide_eq_true h1
    have hnt : (n.toNat : Int) = 0 := by omega
    rw [hnt] at HT HF
    clear h0 hnt
    go_enter Try.func9, Try.ntmps9
    go_wp2_with fail
    refine (none_any w H.out).mono ?_
    rintro e w' ⟨rfl, rfl⟩
    go_wp2_with fail
    go_end0
    exact ⟨rfl, HF.out, HT.out⟩
theorem new_bad (n : Int) (w : World) (h : n < 1 ∨ 65536 < n) : Calls Try.prog 8 #[.int .i64 n] w fun e w' => e = .returned (.tuple #[.pointer none, .int .i64 1]) ∧ w = w' := by
  by_cases h1 : n < 1
  · have e1 : decide (n < 1) = true := decide_eq_true h1
    clear h
    go_enter Try.func8, Try.ntmps8
    go_wp2_with fail
    go_ret2
    exact ⟨rfl, rfl⟩
  · have e1 : decide (n < 1) = false := decide_eq_false h1
    have h2 : 65536 < n := by omega
    have e2 : decide (65536 < n) = true := decide_eq_true h2
    clear h
    go_enter Try.func8, Try.ntmps8
    go_wp2_with fail
    go_ret2
    exact ⟨rfl, rfl⟩
def FV.zero : FV := ⟨.slice none 0 0, .slice none 0 0, .slice none 0 0, 0⟩
def DD.new (room : Nat) : DD := ⟨[FD.none, FD.none, FD.none], room, 0, false⟩
def NewP (room : Nat) (w : World) (e : Ending) (w' : World) : Prop := ∃ db vs, e = .returned (.tuple #[.pointer (some ⟨db, 0, none⟩), .int .i64 0]) ∧ DAt w' w.heap.size db vs (DD.new room) ∧ Below w.heap.size w w'
theorem build_disk (n : Int) : Try.prog.built 64 [(1, .int .i64 n)] = some #[.slice none 0 0, .slice none 0 0, .slice none 0 0, .int .i64 0, .slice none 0 0, .slice none 0 0, .slice none 0 0, .int .i64 0, .slice none 0 0, .slice none 0 0, .slice none 0 0, .int .i64 0, .int .i64 n, .int .i64 0, .bool false] := by kernel_rfl
theorem new_any (room : Nat) (w : World) (h : 1 ≤ room ∧ room ≤ 65536) : Calls Try.prog 8 #[.int .i64 (room : Int)] w (NewP room w) := by
  obtain ⟨h1, h2⟩ := h
  have e1 : decide ((room : Int) < 1) = false := decide_eq_false (by omega)
  have e2 : decide (65536 < (room : Int)) = false := decide_eq_false (by omega)
  have e3 : decide (65536 < room) = false := decide_eq_false (by omega)
  have e4 : decide (room < 1) = false := decide_eq_false (by omega)
  have HB := Lib.hid (Below.allocs w (.cells (dA [FV.zero, FV.zero, FV.zero] room 0 false) 64))
  have HD : Hid (DAt (w.alloc (.cells (dA [FV.zero, FV.zero, FV.zero] room 0 false) 64)) w.heap.size w.heap.size [FV.zero, FV.zero, FV.zero] (DD.new room)) := by
    refine ⟨heap_alloc_last _ _, Nat.le_refl _, rfl, rfl, fun i v f h3 h4 => ?_, fun i j v v' k h3 h4 h5 => ?_, ⟨h1, h2⟩, Nat.zero_le _, Nat.zero_le _, fun f hf => ?_⟩
    · have hv : v = FV.zero := by
        have := List.mem_of_getElem? h3
        simpa using this
      have hf : f = FD.none := by
        have := List.mem_of_getElem? h4
        simpa [DD.new] using this
      subst hv hf
      exact ⟨.inl ⟨rfl, rfl⟩, .inl ⟨rfl, rfl⟩, ⟨[], World.ownsRow_nil _ _ _ _, fun i x s h => by simp at h⟩, rfl, FD.none_ok⟩
    · have hv : v = FV.zero := by
        have := List.mem_of_getElem? h3
        simpa using this
      subst hv
      simp [FV.zero, Value.ownBlock] at h5
    · have : f = FD.none := by simpa [DD.new] using hf
      subst this
      exact Nat.zero_le _
  go_enter Try.func8, Try.ntmps8
  go_wp2_with fail
  go_ret2
  exact ⟨_, [FV.zero, FV.zero, FV.zero], rfl, HD.out, HB.out⟩
end Go.Proofs.Ytlmlcedjhpfeiaa.Dk
