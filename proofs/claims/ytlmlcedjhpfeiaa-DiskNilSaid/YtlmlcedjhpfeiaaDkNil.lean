/- THE WALKS OF A DISK: nil, and one that no call made; DiskNil. Conditions: none. -/
import Derived.Test.YtlmlcedjhpfeiaaDk10
import Derived.Laws.Cover3
namespace Go.Proofs.Ytlmlcedjhpfeiaa.Dk
open Go.RowKit Go.Mir

/-- nil, or a disk that no call made -/
def Non (w : World) (v : Value) : Prop := v = .pointer none ∨ ∃ db, v = .pointer (some ⟨db, 0, none⟩) ∧ w.cell? ⟨db, 12, none⟩ = some (.int .i64 0)
theorem Non.below {w w' : World} {v : Value} (h : Non w v) (hb : Below w.heap.size w w') : Non w' v := by
  rcases h with h | ⟨cb, h, hc⟩
  · exact .inl h
  · exact .inr ⟨cb, h, cell_below hc hb⟩
set_option maxRecDepth 100000 in
theorem none_non (v : Value) (w : World) (h : Non w v) : Calls Try.prog 28 #[v] w fun e w' => e = .returned (.bool true) ∧ w = w' := by
  rcases h with rfl | ⟨cb, rfl, hc⟩
  · go_enter Try.func28, Try.ntmps28
    go_wp2_with fail
    go_ret
    exact ⟨rfl, rfl⟩
  · go_enter Try.func28, Try.ntmps28
    go_wp2_with fail
    go_ret
    exact ⟨rfl, rfl⟩
set_option maxRecDepth 100000 in
theorem at_non (v : Value) (n : Int) (w : World) (h : Non w v) : Calls Try.prog 30 #[v, .int .i64 n] w fun e w' => e = .returned (.pointer none) ∧ w = w' := by
  have HV := Lib.hid h
  clear h
  go_enter Try.func30, Try.ntmps30
  go_wp2_with fail
  refine (none_non _ _ HV.out).mono ?_
  rintro e w' ⟨rfl, hw⟩
  subst hw
  go_wp2_with fail
  go_ret
  exact ⟨rfl, rfl⟩
set_option maxRecDepth 100000 in
theorem arm_non (v : Value) (n : Int) (w : World) (h : Non w v) : Calls Try.prog 9 #[v, .int .i64 n] w fun e w' => e = .returned (.tuple #[]) ∧ w = w' := by
  have HV := Lib.hid h
  clear h
  go_enter Try.func9, Try.ntmps9
  go_wp2_with fail
  refine (none_non _ _ HV.out).mono ?_
  rintro e w' ⟨rfl, hw⟩
  subst hw
  go_wp2_with fail
  go_end0
  exact ⟨rfl, rfl⟩
set_option maxRecDepth 100000 in
theorem crash_non (v : Value) (u : Value) (w : World) (h : Non w v) : Calls Try.prog 15 #[v, u] w fun e w' => e = .returned (.tuple #[]) ∧ w = w' := by
  have HV := Lib.hid h
  clear h
  go_enter Try.func15, Try.ntmps15
  go_wp2_with fail
  refine (none_non _ _ HV.out).mono ?_
  rintro e w' ⟨rfl, hw⟩
  subst hw
  go_wp2_with fail
  refine bodyPost_ret (results_none rfl _ _ _) rfl ?_
  exact ⟨rfl, rfl⟩
set_option maxRecDepth 100000 in
theorem read_non (v : Value) (n : Int) (w : World) (h : Non w v) : Calls Try.prog 19 #[v, .int .i64 n] w fun e w' => e = .returned (.slice none 0 0) ∧ w = w' := by
  have HV := Lib.hid h
  clear h
  go_enter Try.func19, Try.ntmps19
  go_wp2_with fail
  refine (at_non _ _ _ HV.out).mono ?_
  rintro e w' ⟨rfl, hw⟩
  subst hw
  go_wp2_with fail
  go_ret
  exact ⟨rfl, rfl⟩
set_option maxRecDepth 100000 in
theorem kept_non (v : Value) (n : Int) (w : World) (h : Non w v) : Calls Try.prog 20 #[v, .int .i64 n] w fun e w' => e = .returned (.slice none 0 0) ∧ w = w' := by
  have HV := Lib.hid h
  clear h
  go_enter Try.func20, Try.ntmps20
  go_wp2_with fail
  refine (at_non _ _ _ HV.out).mono ?_
  rintro e w' ⟨rfl, hw⟩
  subst hw
  go_wp2_with fail
  go_ret
  exact ⟨rfl, rfl⟩
set_option maxRecDepth 100000 in
theorem units_non (v : Value) (n : Int) (w : World) (h : Non w v) : Calls Try.prog 26 #[v, .int .i64 n] w fun e w' => e = .returned (.int .i64 0) ∧ w = w' := by
  have HV := Lib.hid h
  clear h
  go_enter Try.func26, Try.ntmps26
  go_wp2_with fail
  refine (at_non _ _ _ HV.out).mono ?_
  rintro e w' ⟨rfl, hw⟩
  subst hw
  go_wp2_with fail
  go_ret
  exact ⟨rfl, rfl⟩
set_option maxRecDepth 100000 in
theorem used_non (v : Value) (w : World) (h : Non w v) : Calls Try.prog 22 #[v] w fun e w' => e = .returned (.int .i64 0) ∧ w = w' := by
  have HV := Lib.hid h
  clear h
  go_enter Try.func22, Try.ntmps22
  go_wp2_with fail
  refine (none_non _ _ HV.out).mono ?_
  rintro e w' ⟨rfl, hw⟩
  subst hw
  go_wp2_with fail
  go_ret
  exact ⟨rfl, rfl⟩
set_option maxRecDepth 100000 in
theorem room_non (v : Value) (w : World) (h : Non w v) : Calls Try.prog 27 #[v] w fun e w' => e = .returned (.int .i64 0) ∧ w = w' := by
  have HV := Lib.hid h
  clear h
  go_enter Try.func27, Try.ntmps27
  go_wp2_with fail
  refine (none_non _ _ HV.out).mono ?_
  rintro e w' ⟨rfl, hw⟩
  subst hw
  go_wp2_with fail
  go_ret
  exact ⟨rfl, rfl⟩
set_option maxRecDepth 100000 in
theorem fuse_non (v : Value) (w : World) (h : Non w v) : Calls Try.prog 14 #[v] w fun e w' => e = .returned (.int .i64 0) ∧ w = w' := by
  have HV := Lib.hid h
  clear h
  go_enter Try.func14, Try.ntmps14
  go_wp2_with fail
  refine (none_non _ _ HV.out).mono ?_
  rintro e w' ⟨rfl, hw⟩
  subst hw
  go_wp2_with fail
  go_ret
  exact ⟨rfl, rfl⟩
set_option maxRecDepth 100000 in
theorem down_non (v : Value) (w : World) (h : Non w v) : Calls Try.prog 13 #[v] w fun e w' => e = .returned (.bool true) ∧ w = w' := by
  have HV := Lib.hid h
  clear h
  go_enter Try.func13, Try.ntmps13
  go_wp2_with fail
  refine (none_non _ _ HV.out).mono ?_
  rintro e w' ⟨rfl, hw⟩
  subst hw
  go_wp2_with fail
  go_ret
  exact ⟨rfl, rfl⟩
set_option maxRecDepth 100000 in
theorem clone_non (v : Value) (w : World) (h : Non w v) : Calls Try.prog 21 #[v] w fun e w' => e = .returned (.pointer none) ∧ w = w' := by
  have HV := Lib.hid h
  clear h
  go_enter Try.func21, Try.ntmps21
  go_wp2_with fail
  refine (none_non _ _ HV.out).mono ?_
  rintro e w' ⟨rfl, hw⟩
  subst hw
  go_wp2_with fail
  go_ret
  exact ⟨rfl, rfl⟩
set_option maxRecDepth 100000 in
theorem size_non (v : Value) (n : Int) (w : World) (h : Non w v) : Calls Try.prog 23 #[v, .int .i64 n] w fun e w' => e = .returned (.int .i64 0) ∧ w = w' := by
  have HV := Lib.hid h
  clear h
  go_enter Try.func23, Try.ntmps23
  go_wp2_with fail
  refine (read_non _ _ _ HV.out).mono ?_
  rintro e w' ⟨rfl, hw⟩
  subst hw
  go_wp2_with fail
  go_ret
  exact ⟨rfl, rfl⟩
set_option maxRecDepth 100000 in
theorem sync_non (v : Value) (n : Int) (w : World) (h : Non w v) : Calls Try.prog 12 #[v, .int .i64 n] w fun e w' => e = .returned (.int .i64 7) ∧ w = w' := by
  have HV := Lib.hid h
  clear h
  go_enter Try.func12, Try.ntmps12
  go_wp2_with fail
  refine (at_non _ _ _ HV.out).mono ?_
  rintro e w' ⟨rfl, hw⟩
  subst hw
  go_wp2_with fail
  refine (none_non _ _ HV.out).mono ?_
  rintro e w' ⟨rfl, hw⟩
  subst hw
  go_wp2_with fail
  go_ret
  exact ⟨rfl, rfl⟩
set_option maxRecDepth 100000 in
theorem do_non (v : Value) (n : Int) (sv : Value) (w : World) (h : Non w v) (hsv : (∃ v, sv = .iface 68 v) ∨ ∃ z, sv = .iface 70 (.agg #[.int .i64 z])) :
    Calls Try.prog 29 #[v, .int .i64 n, sv] w fun e w' => e = .returned (.int .i64 7) ∧ Below w.heap.size w w' := by
  have HV := Lib.hid h
  clear h
  rcases hsv with ⟨x, rfl⟩ | ⟨z, rfl⟩
  · have hta := ta_pc x
    go_enter Try.func29, Try.ntmps29
    go_wp2_with fail
    refine (at_non _ _ _ HV.out).mono ?_
    rintro e w' ⟨rfl, hw⟩
    subst hw
    have hb := Below.allocs w (.cells #[.int .i64 0] 70)
    have HB := Lib.hid hb
    have HA := Lib.hid (HV.out.below hb)
    clear hb
    go_upto_region 3 with fail
    generalize w.alloc (.cells #[.int .i64 0] 70) = w1 at *
    go_wp2_with fail
    refine (none_non _ _ HA.out).mono ?_
    rintro e w' ⟨rfl, hw⟩
    subst hw
    go_wp2_with fail
    go_ret
    exact ⟨rfl, HB.out⟩
  · have hta := ta_cc (.agg #[.int .i64 z])
    go_enter Try.func29, Try.ntmps29
    go_wp2_with fail
    refine (at_non _ _ _ HV.out).mono ?_
    rintro e w' ⟨rfl, hw⟩
    subst hw
    have hb := Below.allocs w (.cells #[.int .i64 z] 70)
    have HB := Lib.hid hb
    have HA := Lib.hid (HV.out.below hb)
    clear hb
    go_upto_region 3 with fail
    generalize w.alloc (.cells #[.int .i64 z] 70) = w1 at *
    go_wp2_with fail
    refine (none_non _ _ HA.out).mono ?_
    rintro e w' ⟨rfl, hw⟩
    subst hw
    go_wp2_with fail
    go_ret
    exact ⟨rfl, HB.out⟩
set_option maxRecDepth 100000 in
theorem append_non (v : Value) (n : Int) (w : World) (h : Non w v) (p : Option Addr) (c : Nat) (b : List UInt8) (hb : Bs w p b.length c b) (hn : b.length ≤ 140737488355328) :
    Calls Try.prog 10 #[v, .int .i64 n, .slice p b.length c] w fun e w' => e = .returned (.int .i64 7) ∧ Below w.heap.size w w' := by
  have HBS := Lib.hid hb
  have hle := hb.le
  have hmax := hb.max
  have HV := Lib.hid h
  clear hb h
  go_enter Try.func10, Try.ntmps10
  go_wp2_with (refine wpList_append_nx rfl _ _ 22 rfl (base := w.heap.size) Try.underlying22 info8 rfl (by omega) rfl (World.ownsRow_nil _ _ _ _) rfl HBS.out (bytesV_one _) ⟨by omega, by omega⟩ (Nat.le_refl _) ?_)
  intro p9 c9 w9 ho9 hg9 _ _
  have hb9 : Below w.heap.size w w9 := (Below.refl _ _).grown hg9 (Nat.le_refl _) (fun k hk => by simp [Value.ownBlock] at hk)
  have HB9 := Lib.hid hb9
  have HDO := Lib.hid (do_non v n (.iface 68 (.agg #[.slice p9 (0 + b.length) c9])) w9 (HV.out.below hb9) (.inl ⟨_, rfl⟩))
  rw [Nat.zero_add] at HDO
  clear ho9 hg9 hb9
  go_wp2_with ((with_reducible refine wpAt 11 ?_); refine wpList_build rfl 68 _ rfl [(0, .slice p9 b.length c9)] rfl _ (build_put _ _ _) ?_)
  refine (HDO.out).mono ?_
  rintro e w2 ⟨rfl, hl⟩
  have HL := Lib.hid (HB9.out.trans (hl.mono HB9.out.size))
  clear hl
  go_wp2_with fail
  go_ret
  exact ⟨rfl, HL.out⟩
set_option maxRecDepth 100000 in
theorem cut_non (v : Value) (n m : Int) (w : World) (h : Non w v) :
    Calls Try.prog 11 #[v, .int .i64 n, .int .i64 m] w fun e w' => e = .returned (.int .i64 7) ∧ Below w.heap.size w w' := by
  have HDO := Lib.hid (do_non v n (.iface 70 (.agg #[.int .i64 m])) w h (.inr ⟨_, rfl⟩))
  clear h
  go_enter Try.func11, Try.ntmps11
  go_wp2_with ((with_reducible refine wpAt 10 ?_); refine wpList_build rfl 70 _ rfl [(0, .int .i64 m)] rfl _ (build_cut _) ?_)
  refine (HDO.out).mono ?_
  rintro e w2 ⟨rfl, hl⟩
  have HL := Lib.hid hl
  clear hl
  go_wp2_with fail
  go_ret
  exact ⟨rfl, HL.out⟩
/-- a disk that no call made -/
def zD : Array Value := #[.slice none 0 0, .slice none 0 0, .slice none 0 0, .int .i64 0, .slice none 0 0, .slice none 0 0, .slice none 0 0, .int .i64 0, .slice none 0 0, .slice none 0 0, .slice none 0 0, .int .i64 0, .int .i64 0, .int .i64 0, .bool false]
set_option maxRecDepth 100000 in
set_option maxHeartbeats 1600000 in
theorem law_nil (x : Int) (hx0 : -9223372036854775808 ≤ x) (hx1 : x ≤ 9223372036854775807) (p : Option Addr) (c : Nat) (b : List UInt8) (W : World) (hB : Bs W p b.length c b) (hn : b.length ≤ 140737488355328) :
    Calls Try.prog 7 #[.int .i64 x, .slice p b.length c] W fun e w' => e = .returned (.bool true) ∧ Below W.heap.size W w' := by
  have HX : Hid (-9223372036854775808 ≤ x ∧ x ≤ 9223372036854775807) := ⟨hx0, hx1⟩
  have hc0 : (W.alloc (.cells zD 64)).cell? ⟨W.heap.size, 12, none⟩ = some (.int .i64 0) := by
    rw [cell_of_row _ _ _ _ _ _ (heap_alloc_last W (.cells zD 64))]; rfl
  have HC0 := Lib.hid hc0
  have HB0 := Lib.hid (Below.allocs W (.cells zD 64))
  have HBS : Hid (∀ w', Below W.heap.size W w' → Bs w' p b.length c b) := fun w' hb => hB.below hb
  clear hB hc0 hx0 hx1
  go_enter Try.func7, Try.ntmps7
  go_wp2_with fail
  refine (arm_non _ 5 _ (.inl rfl)).mono ?_
  rintro e w' ⟨rfl, hw⟩
  subst hw
  simp only [show (#[Value.slice none 0 0, .slice none 0 0, .slice none 0 0, .int .i64 0, .slice none 0 0, .slice none 0 0, .slice none 0 0, .int .i64 0, .slice none 0 0, .slice none 0 0, .slice none 0 0, .int .i64 0, .int .i64 0, .int .i64 0, .bool false] : Array Value) = zD from rfl]
  generalize hw2 : W.alloc (.cells zD 64) = w2 at *
  have HA : Hid (∀ w', Non w' (.pointer none)) := fun w' => .inl rfl
  have HC : Hid (∀ w', Below w2.heap.size w2 w' → Non w' (.pointer (some ⟨W.heap.size, 0, none⟩))) := fun w' hb => .inr ⟨_, rfl, cell_below HC0.out hb⟩
  clear hw2
  go_wp2_with fail
  refine (arm_non _ 5 _ (HC.out _ (Below.refl _ _))).mono ?_
  rintro e w' ⟨rfl, hw⟩
  subst hw
  have HB3 := Lib.hid (Below.allocs w2 (.cells #[.int .i64 5] 3))
  go_wp2_with fail
  refine (crash_non _ _ _ (HA.out _)).mono ?_
  rintro e w' ⟨rfl, hw⟩
  subst hw
  generalize w2.alloc (.cells #[.int .i64 5] 3) = w3 at *
  have HB4 := Lib.hid (HB3.out.trans ((Below.allocs w3 (.cells #[.int .i64 5] 3)).mono HB3.out.size))
  go_wp2_with fail
  refine (crash_non _ _ _ (HC.out _ HB4.out)).mono ?_
  rintro e w' ⟨rfl, hw⟩
  subst hw
  generalize w3.alloc (.cells #[.int .i64 5] 3) = w4 at *
  have HD4 := Lib.hid (HB0.out.trans (HB4.out.mono HB0.out.size))
  go_wp2_with fail
  refine (append_non _ x _ (HA.out _) p c b (HBS.out _ HD4.out) hn).mono ?_
  rintro e w5 ⟨rfl, hbw5⟩
  have HB5 := Lib.hid (HB4.out.trans (hbw5.mono HB4.out.size))
  clear hbw5
  have HD5 := Lib.hid (HB0.out.trans (HB5.out.mono HB0.out.size))
  go_wp2_with fail
  refine (append_non _ x _ (HC.out _ HB5.out) p c b (HBS.out _ HD5.out) hn).mono ?_
  rintro e w6 ⟨rfl, hbw6⟩
  have HB6 := Lib.hid (HB5.out.trans (hbw6.mono HB5.out.size))
  clear hbw6
  go_wp2_with fail
  refine (cut_non _ x 0 _ (HA.out _)).mono ?_
  rintro e w7 ⟨rfl, hbw7⟩
  have HB7 := Lib.hid (HB6.out.trans (hbw7.mono HB6.out.size))
  clear hbw7
  go_wp2_with fail
  refine (sync_non _ x _ (HC.out _ HB7.out)).mono ?_
  rintro e w' ⟨rfl, hw⟩
  subst hw
  go_wp2_with fail
  refine (read_non _ x _ (HA.out _)).mono ?_
  rintro e w' ⟨rfl, hw⟩
  subst hw
  go_wp2_with fail
  refine (kept_non _ x _ (HC.out _ HB7.out)).mono ?_
  rintro e w' ⟨rfl, hw⟩
  subst hw
  go_wp2_with fail
  refine (size_non _ x _ (HA.out _)).mono ?_
  rintro e w' ⟨rfl, hw⟩
  subst hw
  go_wp2_with fail
  refine (units_non _ x _ (HC.out _ HB7.out)).mono ?_
  rintro e w' ⟨rfl, hw⟩
  subst hw
  go_wp2_with fail
  refine (used_non _ _ (HA.out _)).mono ?_
  rintro e w' ⟨rfl, hw⟩
  subst hw
  go_wp2_with fail
  refine (room_non _ _ (HC.out _ HB7.out)).mono ?_
  rintro e w' ⟨rfl, hw⟩
  subst hw
  go_wp2_with fail
  refine (fuse_non _ _ (HA.out _)).mono ?_
  rintro e w' ⟨rfl, hw⟩
  subst hw
  go_wp2_with fail
  refine (fuse_non _ _ (HC.out _ HB7.out)).mono ?_
  rintro e w' ⟨rfl, hw⟩
  subst hw
  go_wp2_with fail
  refine (down_non _ _ (HA.out _)).mono ?_
  rintro e w' ⟨rfl, hw⟩
  subst hw
  go_wp2_with fail
  refine (down_non _ _ (HC.out _ HB7.out)).mono ?_
  rintro e w' ⟨rfl, hw⟩
  subst hw
  go_wp2_with fail
  refine (clone_non _ _ (HA.out _)).mono ?_
  rintro e w' ⟨rfl, hw⟩
  subst hw
  go_wp2_with fail
  refine (clone_non _ _ (HC.out _ HB7.out)).mono ?_
  rintro e w' ⟨rfl, hw⟩
  subst hw
  go_wp2_with fail
  refine (alive_any _).mono ?_
  rintro e w8 ⟨rfl, hbw8⟩
  have HB8 := Lib.hid (HB7.out.trans (hbw8.mono HB7.out.size))
  clear hbw8
  have HBE := Lib.hid (HB0.out.trans (HB8.out.mono HB0.out.size))
  go_wp2_with fail
  go_ret
  exact ⟨rfl, HBE.out⟩
end Go.Proofs.Ytlmlcedjhpfeiaa.Dk
