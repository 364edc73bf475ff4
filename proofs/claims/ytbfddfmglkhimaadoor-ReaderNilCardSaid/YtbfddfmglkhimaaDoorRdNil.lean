/- LAYER 9: the reader that is none: the law. Conditions: the laid cell of errors.errorType. -/
import Derived.Test.YtbfddfmglkhimaaDoorRdNone
namespace Go.Proofs.YtbfddfmglkhimaaDoor.Rdr
open Go.RowKit Go.Mir Go.Mir.Parts

theorem NoR.grown {w : World} {p : Option Addr} (h : NoR w p) (x : Grown w) : NoR x.v p := h.below x.b
theorem same_below {P : Program} {f : FuncId} {args : Array Value} {w : World} {v : Value} (h : Calls P f args w fun e w' => e = .returned v ∧ w = w') : Calls P f args w fun e w' => e = .returned v ∧ Below w.heap.size w w' :=
  h.mono fun _ _ ⟨h1, h2⟩ => ⟨h1, h2 ▸ Below.refl _ _⟩
theorem eqid0 (w : World) : (Op.equalIn 10000 55 (.agg zid) (.agg #[.int .u8 0, .int .u8 0, .int .u8 0, .int .u8 0, .int .u8 0, .int .u8 0, .int .u8 0, .int .u8 0, .int .u8 0, .int .u8 0, .int .u8 0, .int .u8 0, .int .u8 0, .int .u8 0, .int .u8 0, .int .u8 0, .int .u8 0, .int .u8 0, .int .u8 0, .int .u8 0, .int .u8 0, .int .u8 0, .int .u8 0, .int .u8 0, .int .u8 0, .int .u8 0, .int .u8 0, .int .u8 0, .int .u8 0, .int .u8 0, .int .u8 0, .int .u8 0])).run Tryd.prog w = .ok true w := by kernel_rfl
theorem eqhint0 (w : World) : (Op.equalIn 10000 58 (.agg zhint) (.agg #[.int .u8 0, .int .u8 0, .int .u8 0, .int .u8 0, .int .u8 0, .int .u8 0, .int .u8 0, .int .u8 0, .int .u8 0, .int .u8 0, .int .u8 0, .int .u8 0, .int .u8 0, .int .u8 0, .int .u8 0, .int .u8 0])).run Tryd.prog w = .ok true w := by kernel_rfl
theorem builtid0 (w : World) : (Instr.build 55 #[]).run Tryd.prog w = .ok (.agg zid) w := by kernel_rfl
theorem builthint0 (w : World) : (Instr.build 58 #[]).run Tryd.prog w = .ok (.agg zhint) w := by kernel_rfl
set_option maxRecDepth 100000 in
set_option maxHeartbeats 6400000 in
theorem law_nil (w : World) (hE : EType w) (k a b : Int) (ha : -9223372036854775808 ≤ a ∧ a ≤ 9223372036854775807) (hb : -9223372036854775808 ≤ b ∧ b ≤ 9223372036854775807) :
    Calls Tryd.prog 6 #[.agg #[.int .i64 k, .int .i64 a, .int .i64 b]] w fun e w' => e = .returned (.bool true) ∧ Below w.heap.size w w' := by
  have H2 := Lib.hid (two_allocs w (.cells #[.int .i64 k, .int .i64 a, .int .i64 b] 41) (.cells #[.bool false, .slice none 0 0, .int .i64 0, .nilIface] 49))
  go_enter Tryd.func6, Tryd.ntmps6
  go_upto_region 3 with fail
  generalize (w.alloc (.cells #[.int .i64 k, .int .i64 a, .int .i64 b] 41)).alloc (.cells #[.bool false, .slice none 0 0, .int .i64 0, .nilIface] 49) = w2 at *
  have HN0 : Hid (∀ w : World, NoR w none) := fun _ => .inl rfl
  have HN1 : Hid (NoR w2 (some ⟨w.heap.size + 1, 0, none⟩)) := .inr ⟨_, rfl, by rw [cell_of_row _ _ _ _ _ _ H2.out.2.1]; rfl⟩
  have hc1 : w2.cell? ⟨w.heap.size, 1, none⟩ = some (.int .i64 a) := by rw [cell_of_row _ _ _ _ _ _ H2.out.1]; rfl
  have hc2 : w2.cell? ⟨w.heap.size, 2, none⟩ = some (.int .i64 b) := by rw [cell_of_row _ _ _ _ _ _ H2.out.1]; rfl
  have HB2 := Lib.hid H2.out.2.2.2
  have HE2 := Lib.hid (hE.below HB2.out hE.lt)
  have HS2 := Lib.hid H2.out.2.2.1
  have HA := Lib.hid ha
  have HBB := Lib.hid hb
  clear hE ha hb
  go_wp2_with fail
  refine (no_fail _ (HN0.out _) b).mono ?_
  rintro e w' ⟨rfl, rfl⟩
  go_wp2_with fail
  refine (no_fail _ HN1.out b).mono ?_
  rintro e w' ⟨rfl, rfl⟩
  have hg1 := cell_grown hc1
  go_upto_region 5 with fail
  refine wp_region_grow (by kernel_rfl) (by kernel_rfl) ?_
  repeat (first
    | quiet_step ((first | (go_at_call 10; with_reducible exact Calls.grow_of (same_below (no_num _ (HN0.out _) a HA.out))) | (go_at_call 10; with_reducible exact Calls.grow_of (same_below (no_num _ (HN1.out.grown _) a HA.out))) | (go_at_call 13; with_reducible exact Calls.grow_of (same_below (no_bytes _ (HN0.out _) a))) | (go_at_call 13; with_reducible exact Calls.grow_of (same_below (no_bytes _ (HN1.out.grown _) a))) | (go_at_call 20; with_reducible exact Calls.grow_of (same_below (no_ids _ (HN0.out _) a HA.out))) | (go_at_call 20; with_reducible exact Calls.grow_of (same_below (no_ids _ (HN1.out.grown _) a HA.out))))))
  refine wpQuiet_nil ?_
  intro w5 hb5
  have HN5 := Lib.hid (HN1.out.below hb5)
  have HB5 := Lib.hid (HB2.out.trans (hb5.mono HB2.out.size))
  have HE5 := Lib.hid (HE2.out.below hb5 HE2.out.lt)
  have hd1 := cell_below hc1 hb5
  have hd2 := cell_below hc2 hb5
  clear hb5 hg1 hc1 hc2
  go_wp2_with fail
  refine (no_count _ (HN0.out _) a HA.out b HBB.out).mono ?_
  rintro e w' ⟨rfl, rfl⟩
  go_wp2_with fail
  refine (no_count _ HN5.out a HA.out b HBB.out).mono ?_
  rintro e w' ⟨rfl, rfl⟩
  have q1 := eqid0
  have q2 := eqhint0
  have q3 := builtid0
  have q4 := builthint0
  clear hd1 hd2
  go_wp2_with fail
  refine (no_id _ (HN0.out _)).mono ?_
  rintro e w6 ⟨rfl, hb6⟩
  have HN6 := Lib.hid (HN5.out.below hb6)
  have HB6 := Lib.hid (HB5.out.trans (hb6.mono HB5.out.size))
  have HE6 := Lib.hid (HE5.out.below hb6 HE5.out.lt)
  clear hb6
  go_wp2_with fail
  refine (no_hint _ HN6.out).mono ?_
  rintro e w7 ⟨rfl, hb7⟩
  have HN7 := Lib.hid (HN6.out.below hb7)
  have HB7 := Lib.hid (HB6.out.trans (hb7.mono HB6.out.size))
  have HE7 := Lib.hid (HE6.out.below hb7 HE6.out.lt)
  clear hb7
  go_wp2_with fail
  refine (no_at _ (HN0.out _)).mono ?_
  rintro e w' ⟨rfl, rfl⟩
  go_wp2_with fail
  refine (no_at _ (HN7.out)).mono ?_
  rintro e w' ⟨rfl, rfl⟩
  go_wp2_with fail
  refine (no_left _ (HN0.out _)).mono ?_
  rintro e w' ⟨rfl, rfl⟩
  go_wp2_with fail
  refine (no_left _ (HN7.out)).mono ?_
  rintro e w' ⟨rfl, rfl⟩
  go_wp2_with fail
  refine (no_err _ (HN0.out _)).mono ?_
  rintro e w' ⟨rfl, rfl⟩
  go_wp2_with fail
  refine (no_err _ (HN7.out)).mono ?_
  rintro e w' ⟨rfl, rfl⟩
  go_wp2_with fail
  refine (no_done _ (HN0.out _)).mono ?_
  rintro e w' ⟨rfl, rfl⟩
  go_wp2_with fail
  refine (no_done _ (HN7.out)).mono ?_
  rintro e w' ⟨rfl, rfl⟩
  go_wp2_with fail
  refine (alive9_any _ HE7.out).mono ?_
  rintro e w8 ⟨rfl, hb8⟩
  have HB8 := Lib.hid (HB7.out.trans (hb8.mono HB7.out.size))
  clear hb8
  go_wp2_with fail
  go_ret
  exact ⟨rfl, HB8.out⟩
end Go.Proofs.YtbfddfmglkhimaaDoor.Rdr
