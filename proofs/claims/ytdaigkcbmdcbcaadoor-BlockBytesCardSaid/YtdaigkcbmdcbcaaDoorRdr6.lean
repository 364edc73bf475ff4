/- THE WALKS OF A READER: Err, Done. Conditions: the laid cell of errors.errorType. -/
import Derived.Test.YtdaigkcbmdcbcaaDoorRdr5
import Derived.Test.YtdaigkcbmdcbcaaDoorErrs
namespace Go.Proofs.YtdaigkcbmdcbcaaDoor.Rdr
open Go.RowKit Go.Mir Go.Mir.Parts Go.Proofs.YtdaigkcbmdcbcaaDoor.Er

def EType (w : World) : Prop := w.cell? ⟨0, 0, none⟩ = some (.iface 114 (.agg #[.pointer (some ⟨1, 83, none⟩)]))
theorem EType.below {w w' : World} {B : Nat} (h : EType w) (hb : Below B w w') (hB : 0 < B) : EType w' := by
  unfold EType at h ⊢
  rw [World.cell?] at h ⊢
  rw [hb.block _ hB]
  exact h
theorem EType.lt {w : World} (h : EType w) : 0 < w.heap.size := by
  unfold EType at h
  rcases Nat.lt_or_ge 0 w.heap.size with h1 | h1
  · exact h1
  · simp [World.cell?, Array.getElem?_eq_none h1] at h
def E4 : Value := .agg #[.int .i64 1, .int .i64 2, .int .i64 3, .int .i64 4]
theorem e4_0 (w : World) : (Instr.index 95 (.agg #[.int .i64 1, .int .i64 2, .int .i64 3, .int .i64 4]) (.int .i64 0)).run Tryd.prog w = .ok (.int .i64 1) w := by kernel_rfl
theorem e4_1 (w : World) : (Instr.index 95 (.agg #[.int .i64 1, .int .i64 2, .int .i64 3, .int .i64 4]) (.int .i64 1)).run Tryd.prog w = .ok (.int .i64 2) w := by kernel_rfl
theorem e4_2 (w : World) : (Instr.index 95 (.agg #[.int .i64 1, .int .i64 2, .int .i64 3, .int .i64 4]) (.int .i64 2)).run Tryd.prog w = .ok (.int .i64 3) w := by kernel_rfl
theorem e4_3 (w : World) : (Instr.index 95 (.agg #[.int .i64 1, .int .i64 2, .int .i64 3, .int .i64 4]) (.int .i64 3)).run Tryd.prog w = .ok (.int .i64 4) w := by kernel_rfl
set_option maxRecDepth 100000 in
set_option maxHeartbeats 1600000 in
theorem err_any {base rb : Nat} {s : RD} (w : World) (h : RAt w base rb s) (hE : EType w) :
    Calls Tryd.prog 58 #[.pointer (some ⟨rb, 0, none⟩)] w fun e w' => e = .returned (.int .i64 s.err) ∧ Below w.heap.size w w' := by
  have H := Lib.hid h
  obtain ⟨v, bv, h⟩ := h
  obtain ⟨_, _, _, hc3, _⟩ := h.cells
  obtain ⟨l, pos, bad⟩ := s
  have hlt := h.lt
  have x0 := e4_0
  have x1 := e4_1
  have x2 := e4_2
  have x3 := e4_3
  cases bad with
  | none =>
    have hbv : bv = .nilIface := h.fault
    rw [hbv] at hc3
    have HB := Lib.hid (Below.allocs w (.cells #[.pointer none] 92))
    have hc3' := cell_below hc3 HB.out
    clear h hbv
    go_enter Tryd.func58, Tryd.ntmps58
    go_wp2_with fail
    refine (none_any w H.out).mono ?_
    rintro e w' ⟨rfl, rfl⟩
    go_wp2_with fail
    refine wp_loop_rounds 5 ?_
    rw [rounds_succ]
    go_wp2_with fail
    refine (is_nil _ w).mono ?_
    rintro e w' ⟨rfl, rfl⟩
    go_wp2_with fail
    rw [rounds_succ]
    go_wp2_with fail
    refine (is_nil _ w).mono ?_
    rintro e w' ⟨rfl, rfl⟩
    go_wp2_with fail
    rw [rounds_succ]
    go_wp2_with fail
    refine (is_nil _ w).mono ?_
    rintro e w' ⟨rfl, rfl⟩
    go_wp2_with fail
    rw [rounds_succ]
    go_wp2_with fail
    refine (is_nil _ w).mono ?_
    rintro e w' ⟨rfl, rfl⟩
    go_wp2_with fail
    rw [rounds_succ]
    go_wp2_with fail
    refine (as_nil _ _).mono ?_
    rintro e w' ⟨rfl, rfl⟩
    go_wp2_with fail
    go_ret
    exact ⟨rfl, HB.out⟩
  | some b =>
    obtain ⟨hb0, _, fb, a0, hbv, _, hrow⟩ := h.fault
    rw [hbv] at hc3
    have hcf : w.cell? ⟨fb, 1, none⟩ = some (.int .i64 b) := by rw [cell_of_row _ _ _ _ _ _ hrow]; rfl
    have hflt : fb < w.heap.size := (Array.getElem?_eq_some_iff.1 hrow).1
    clear h hbv hrow
    by_cases h1 : b = 1
    · subst h1
      go_enter Tryd.func58, Tryd.ntmps58
      go_wp2_with fail
      refine (none_any w H.out).mono ?_
      rintro e w' ⟨rfl, rfl⟩
      go_wp2_with fail
      refine wp_loop_rounds 5 ?_
      rw [rounds_succ]
      go_wp2_with fail
      refine (is_fault fb _ 1 _ hcf).mono ?_
      rintro e w' ⟨rfl, rfl⟩
      go_wp2_with fail
      go_ret
      exact ⟨rfl, Below.refl _ _⟩
    by_cases h2 : b = 2
    · subst h2
      go_enter Tryd.func58, Tryd.ntmps58
      go_wp2_with fail
      refine (none_any w H.out).mono ?_
      rintro e w' ⟨rfl, rfl⟩
      go_wp2_with fail
      refine wp_loop_rounds 5 ?_
      rw [rounds_succ]
      go_wp2_with fail
      refine (is_fault fb _ 1 _ hcf).mono ?_
      rintro e w' ⟨rfl, rfl⟩
      go_wp2_with fail
      rw [rounds_succ]
      go_wp2_with fail
      refine (is_fault fb _ 2 _ hcf).mono ?_
      rintro e w' ⟨rfl, rfl⟩
      go_wp2_with fail
      go_ret
      exact ⟨rfl, Below.refl _ _⟩
    by_cases h3 : b = 3
    · subst h3
      go_enter Tryd.func58, Tryd.ntmps58
      go_wp2_with fail
      refine (none_any w H.out).mono ?_
      rintro e w' ⟨rfl, rfl⟩
      go_wp2_with fail
      refine wp_loop_rounds 5 ?_
      rw [rounds_succ]
      go_wp2_with fail
      refine (is_fault fb _ 1 _ hcf).mono ?_
      rintro e w' ⟨rfl, rfl⟩
      go_wp2_with fail
      rw [rounds_succ]
      go_wp2_with fail
      refine (is_fault fb _ 2 _ hcf).mono ?_
      rintro e w' ⟨rfl, rfl⟩
      go_wp2_with fail
      rw [rounds_succ]
      go_wp2_with fail
      refine (is_fault fb _ 3 _ hcf).mono ?_
      rintro e w' ⟨rfl, rfl⟩
      go_wp2_with fail
      go_ret
      exact ⟨rfl, Below.refl _ _⟩
    by_cases h4 : b = 4
    · subst h4
      go_enter Tryd.func58, Tryd.ntmps58
      go_wp2_with fail
      refine (none_any w H.out).mono ?_
      rintro e w' ⟨rfl, rfl⟩
      go_wp2_with fail
      refine wp_loop_rounds 5 ?_
      rw [rounds_succ]
      go_wp2_with fail
      refine (is_fault fb _ 1 _ hcf).mono ?_
      rintro e w' ⟨rfl, rfl⟩
      go_wp2_with fail
      rw [rounds_succ]
      go_wp2_with fail
      refine (is_fault fb _ 2 _ hcf).mono ?_
      rintro e w' ⟨rfl, rfl⟩
      go_wp2_with fail
      rw [rounds_succ]
      go_wp2_with fail
      refine (is_fault fb _ 3 _ hcf).mono ?_
      rintro e w' ⟨rfl, rfl⟩
      go_wp2_with fail
      rw [rounds_succ]
      go_wp2_with fail
      refine (is_fault fb _ 4 _ hcf).mono ?_
      rintro e w' ⟨rfl, rfl⟩
      go_wp2_with fail
      go_ret
      exact ⟨rfl, Below.refl _ _⟩
    have y1 : (b == 1) = false := beq_eq_false_iff_ne.2 h1
    have y2 : (b == 2) = false := beq_eq_false_iff_ne.2 h2
    have y3 : (b == 3) = false := beq_eq_false_iff_ne.2 h3
    have y4 : (b == 4) = false := beq_eq_false_iff_ne.2 h4
    have HC3 := Lib.hid hc3
    have HCF := Lib.hid hcf
    have HB := Lib.hid (Below.allocs w (.cells #[.pointer none] 92))
    have HEY : Hid (EType (w.alloc (.cells #[.pointer none] 92))) := hE.below HB.out hE.lt
    have HT0 : Hid ((w.alloc (.cells #[.pointer none] 92)).cell? ⟨w.heap.size, 0, none⟩ = some (.pointer none)) := cell_alloc_new _ _ _ _
    have HF0 : Hid ((w.alloc (.cells #[.pointer none] 92)).frozen? ⟨w.heap.size, 0, none⟩ = false) := frozen_of_row _ _ _ _ _ (heap_alloc_last _ _)
    have hc3' := cell_below hc3 HB.out
    go_enter Tryd.func58, Tryd.ntmps58
    go_wp2_with fail
    refine (none_any w H.out).mono ?_
    rintro e w' ⟨rfl, rfl⟩
    go_wp2_with fail
    refine wp_loop_rounds 5 ?_
    rw [rounds_succ]
    go_wp2_with fail
    refine (is_fault fb _ 1 _ hcf).mono ?_
    rintro e w' ⟨rfl, rfl⟩
    go_wp2_with fail
    rw [rounds_succ]
    go_wp2_with fail
    refine (is_fault fb _ 2 _ hcf).mono ?_
    rintro e w' ⟨rfl, rfl⟩
    go_wp2_with fail
    rw [rounds_succ]
    go_wp2_with fail
    refine (is_fault fb _ 3 _ hcf).mono ?_
    rintro e w' ⟨rfl, rfl⟩
    go_wp2_with fail
    rw [rounds_succ]
    go_wp2_with fail
    refine (is_fault fb _ 4 _ hcf).mono ?_
    rintro e w' ⟨rfl, rfl⟩
    go_wp2_with fail
    rw [rounds_succ]
    go_wp2_with fail
    refine (as_hit ⟨fb, 0, none⟩ ⟨w.heap.size, 0, none⟩ (.pointer none) _ HEY.out HT0.out HF0.out).mono ?_
    rintro e wz ⟨rfl, hw⟩
    have HBZ : Hid (Below w.heap.size w wz ∧ wz.cell? ⟨w.heap.size, 0, none⟩ = some (.pointer (some ⟨fb, 0, none⟩))) := by
      subst hw
      have b1 := HB.out
      have r1 : (w.alloc (.cells #[.pointer none] 92)).heap[w.heap.size]? = some (.cells #[.pointer none] 92 (0, 0)) := heap_alloc_last _ _
      generalize w.alloc (.cells #[.pointer none] 92) = v1 at *
      have b2 := b1.alloc b1.size (.cells #[.pointer (some ⟨w.heap.size, 0, none⟩)] 98)
      have r2 := block_old (.cells #[.pointer (some ⟨w.heap.size, 0, none⟩)] 98) r1
      generalize v1.alloc (.cells #[.pointer (some ⟨w.heap.size, 0, none⟩)] 98) = v2 at *
      have b3 := b2.alloc b2.size (.cells #[.pointer (some ⟨1, 98, none⟩), .pointer (some ⟨v1.heap.size, 0, none⟩), .int .u64 150] 106)
      have r3 := block_old (.cells #[.pointer (some ⟨1, 98, none⟩), .pointer (some ⟨v1.heap.size, 0, none⟩), .int .u64 150] 106) r2
      have b4 := b3.alloc b3.size (.cells #[.pointer (some ⟨1, 98, none⟩), .pointer (some ⟨v1.heap.size, 0, none⟩), .int .u64 150] 106)
      have r4 := block_old (.cells #[.pointer (some ⟨1, 98, none⟩), .pointer (some ⟨v1.heap.size, 0, none⟩), .int .u64 150] 106) r3
      have b5 := b4.alloc b4.size (.cells #[.pointer (some ⟨fb, 0, none⟩)] 92)
      have r5 := block_old (.cells #[.pointer (some ⟨fb, 0, none⟩)] 92) r4
      refine ⟨b5.setCell (Nat.le_refl _) _, ?_⟩
      rw [cell_of_row _ _ _ _ _ _ (heap_setCell_same _ _ _ _ _ _ r5)]
      rfl
    have hct := HBZ.out.2
    have hcz := cell_below HCF.out HBZ.out.1
    clear hw
    go_wp2_with fail
    go_ret
    exact ⟨rfl, HBZ.out.1⟩
def RD.done (s : RD) : Int := if s.err ≠ 0 then s.err else if s.l.length - s.pos = 0 then 0 else 3
theorem done_any {base rb : Nat} {s : RD} (w : World) (h : RAt w base rb s) (hE : EType w) :
    Calls Tryd.prog 39 #[.pointer (some ⟨rb, 0, none⟩)] w fun e w' => e = .returned (.int .i64 s.done) ∧ Below w.heap.size w w' := by
  have H := Lib.hid h
  have HE := Lib.hid (err_any w h hE)
  clear h hE
  by_cases h0 : s.err = 0
  · rw [h0] at HE
    by_cases hl : s.l.length - s.pos = 0
    · have hR : Hid (s.done = 0) := by show _ = _; unfold RD.done; rw [if_neg (by simp [h0]), if_pos hl]
      go_enter Tryd.func39, Tryd.ntmps39
      go_wp2_with fail
      refine HE.out.mono ?_
      rintro e w1 ⟨rfl, hb1⟩
      have HB1 := Lib.hid hb1
      have H1 := Lib.hid (H.out.below hb1)
      clear hb1
      go_wp2_with fail
      refine (left_any w1 H1.out).mono ?_
      rintro e w2 ⟨rfl, hb2⟩
      have HB2 := Lib.hid (HB1.out.trans (hb2.mono HB1.out.size))
      clear hb2
      rw [hl]
      go_wp2_with fail
      go_ret
      exact ⟨by rw [hR.out]; rfl, HB2.out⟩
    · have hR : Hid (s.done = 3) := by show _ = _; unfold RD.done; rw [if_neg (by simp [h0]), if_neg hl]
      generalize hq : s.l.length - s.pos = q at *
      have hb : ((q : Int) == 0) = false := by rw [beq_eq_false_iff_ne]; omega
      go_enter Tryd.func39, Tryd.ntmps39
      go_wp2_with fail
      refine HE.out.mono ?_
      rintro e w1 ⟨rfl, hb1⟩
      have HB1 := Lib.hid hb1
      have H1 := Lib.hid (H.out.below hb1)
      clear hb1
      go_wp2_with fail
      refine (left_any w1 H1.out).mono ?_
      rintro e w2 ⟨rfl, hb2⟩
      have HB2 := Lib.hid (HB1.out.trans (hb2.mono HB1.out.size))
      clear hb2
      rw [hq]
      go_wp2_with fail
      go_ret
      exact ⟨by rw [hR.out]; rfl, HB2.out⟩
  · have hR : Hid (s.done = s.err) := by show _ = _; unfold RD.done; rw [if_pos h0]
    have hb : (s.err == 0) = false := by rw [beq_eq_false_iff_ne]; exact h0
    have hb2 : (s.err != 0) = true := by simp [h0]
    generalize s.err = E at *
    go_enter Tryd.func39, Tryd.ntmps39
    go_wp2_with fail
    refine HE.out.mono ?_
    rintro e w1 ⟨rfl, hb1⟩
    have HB1 := Lib.hid hb1
    clear hb1
    go_wp2_with fail
    go_ret
    exact ⟨by rw [hR.out]; rfl, HB1.out⟩
end Go.Proofs.YtdaigkcbmdcbcaaDoor.Rdr
