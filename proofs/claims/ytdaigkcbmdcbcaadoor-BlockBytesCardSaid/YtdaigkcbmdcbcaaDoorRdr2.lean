/- THE WALKS OF A READER: bytes taken; a number. Conditions: none. -/
import Derived.Test.YtdaigkcbmdcbcaaDoorRdr
namespace Go.Proofs.YtdaigkcbmdcbcaaDoor.Rdr
open Go.RowKit Go.Mir

def TakeP (base rb : Nat) (s : RD) (n : Int) (fits : Bool) (w : World) (e : Ending) (w' : World) : Prop :=
  ∃ p c, e = .returned (.slice p (s.takeB n fits).length c) ∧ Bs w' p (s.takeB n fits).length c (s.takeB n fits) ∧ LeftR base rb (s.takeS n fits) w w'
theorem TakeP.empty {base rb : Nat} {s : RD} {n : Int} {fits : Bool} {w w' : World} (hB : s.takeB n fits = []) (h : LeftR base rb (s.takeS n fits) w w') : TakeP base rb s n fits w (.returned (.slice none 0 0)) w' :=
  ⟨none, 0, by rw [hB]; rfl, by rw [hB]; exact Sl.nil _ _, h⟩
theorem run_cut {w : World} {p : Option Addr} {L c : Nat} (l : List UInt8) (h : Bs w p L c l) (k m : Nat) (hk : k + m ≤ L) :
    ∃ q, (∀ w0, (Instr.sliceAt 29 (.slice p L c) (some (.int .i64 (k : Int))) (some (.int .i64 ((k : Int) + (m : Int)))) (some (.int .i64 ((k : Int) + (m : Int))))).run Tryd.prog w0 = .ok (.slice q m m) w0) ∧
      ∀ w', (∀ b o v, p = some ⟨b, o, none⟩ → ∀ j, w.cell? ⟨b, j, none⟩ = some v → w'.cell? ⟨b, j, none⟩ = some v) → Bs w' q m m ((l.drop k).take m) := by
  have hle := h.le
  have hmax := h.max
  have hsz : (Tryd.prog.info? 5).map (·.size) = some 1 := by kernel_rfl
  obtain ⟨i, hi, hi1⟩ := Option.map_eq_some_iff.1 hsz
  have e1 : ((k : Int) + (m : Int)).toNat = k + m := by omega
  have hrun : ∀ w0, (Instr.sliceAt 29 (.slice p L c) (some (.int .i64 (k : Int))) (some (.int .i64 ((k : Int) + (m : Int)))) (some (.int .i64 ((k : Int) + (m : Int))))).run Tryd.prog w0 = .ok (.slice (if k + m = k then p else p.map (·.add k)) m m) w0 := fun w0 => by
    have hb1 : (0 : Int) ≤ (k : Int) + (m : Int) ∧ (k : Int) + (m : Int) ≤ (c : Int) := by omega
    have hb3 : (0 : Int) ≤ (k : Int) ∧ (k : Int) ≤ ((k + m : Nat) : Int) := by omega
    simp [Instr.sliceAt, Instr.slice, run_underlying Tryd.underlying29, Instr.sliceBounds, Instr.sliceBound, asIntOf, sizeOf, typeInfo, hi, hi1, e1, hb1, hb3]
    try omega
  by_cases hm : m = 0
  · subst hm
    refine ⟨p, fun w0 => by rw [hrun]; simp, fun w' _ => ?_⟩
    refine ⟨by simp [bytesV], Nat.le_refl _, by omega, fun _ => rfl, fun a ha j u hu => by simp [bytesV] at hu⟩
  · obtain ⟨b, o, rfl, hB⟩ := Bs.part h k m hk (by omega)
    refine ⟨some ⟨b, o + k, none⟩, fun w0 => by rw [hrun, if_neg (by omega)]; simp [add_none], fun w' hw => ⟨hB.len, hB.le, hB.max, hB.nil0, fun a ha j u hu => ?_⟩⟩
    have h1 := hB.cell a ha j u hu
    obtain rfl := Option.some.inj ha
    rw [add_none] at h1 ⊢
    exact hw b o u rfl _ h1
set_option maxRecDepth 100000 in
set_option maxHeartbeats 1600000 in
theorem take_any {base rb : Nat} {s : RD} (w : World) (h : RAt w base rb s) (n : Int) (hn : -9223372036854775808 ≤ n ∧ n ≤ 9223372036854775807) (fits : Bool) :
    Calls Tryd.prog 54 #[.pointer (some ⟨rb, 0, none⟩), .int .i64 n, .bool fits] w (TakeP base rb s n fits w) := by
  have H := Lib.hid h
  obtain ⟨v, bv, h⟩ := h
  obtain ⟨_, hc1, hc2, hc3, hfz⟩ := h.cells
  have HI := Lib.hid h
  obtain ⟨l, pos, bad⟩ := s
  cases bad with
  | some b =>
    obtain ⟨_, _, fb, a0, hbv, _⟩ := h.fault
    rw [hbv] at hc3
    have HFIN : Hid (TakeP base rb ⟨l, pos, some b⟩ n fits w (.returned (.slice none 0 0)) w) := by
      refine TakeP.empty (by unfold RD.takeB; rw [if_neg (by simp)]) ?_
      have : RD.takeS ⟨l, pos, some b⟩ n fits = ⟨l, pos, some b⟩ := by unfold RD.takeS; rw [if_pos (by simp)]
      rw [this]
      exact LeftR.same H.out (Below.refl _ _)
    clear h hbv
    go_enter Tryd.func54, Tryd.ntmps54
    go_wp2_with fail
    refine (none_any w H.out).mono ?_
    rintro e w' ⟨rfl, rfl⟩
    go_wp2_with fail
    go_ret
    exact HFIN.out
  | none =>
    have hbv : bv = .nilIface := h.fault
    rw [hbv] at hc3
    obtain ⟨p, c, hv, hbs⟩ := h.bytes.bs
    rw [hv] at hc1
    dsimp only at hc1 hc2 hbs hv
    have hg1 := cell_grown hc1
    have hg2 := cell_grown hc2
    have hat : pos ≤ l.length := h.at1
    have hlen : l.length ≤ 140737488355328 := h.len
    have hle := hbs.le
    have hmax := hbs.max
    have HBS := Lib.hid hbs
    have HV := Lib.hid hv
    clear h hbv hbs hv
    by_cases hbad : fits = false ∨ n < 0
    · have hTB : RD.takeB ⟨l, pos, none⟩ n fits = [] := by
        unfold RD.takeB
        rw [if_neg]
        rintro ⟨_, h1, h2, _⟩
        rcases hbad with h | h
        · rw [h] at h1
          cases h1
        · omega
      have HFIN : Hid (∀ w', LeftR base rb (RD.fail ⟨l, pos, none⟩ 1) w w' → TakeP base rb ⟨l, pos, none⟩ n fits w (.returned (.slice none 0 0)) w') := fun w' hl => by
        refine TakeP.empty hTB ?_
        have : RD.takeS ⟨l, pos, none⟩ n fits = RD.fail ⟨l, pos, none⟩ 1 := by unfold RD.takeS RD.fail; rw [if_neg (by simp), if_pos hbad, if_pos ⟨rfl, by decide⟩]
        rw [this]
        exact hl
      have HFL := Lib.hid (fail_any w H.out 1 (by omega))
      clear hg1 hg2 hTB
      cases fits with
      | false =>
        clear hbad
        go_enter Tryd.func54, Tryd.ntmps54
        go_wp2_with fail
        refine (none_any w H.out).mono ?_
        rintro e w' ⟨rfl, rfl⟩
        go_wp2_with fail
        refine (HFL.out).mono ?_
        rintro e w' ⟨rfl, hl⟩
        have HL := Lib.hid (HFIN.out _ hl)
        clear hl
        go_wp2_with fail
        go_ret
        exact HL.out
      | true =>
        have hneg : n < 0 := by simpa using hbad
        have e1 : decide (n < 0) = true := decide_eq_true hneg
        clear hbad
        go_enter Tryd.func54, Tryd.ntmps54
        go_wp2_with fail
        refine (none_any w H.out).mono ?_
        rintro e w' ⟨rfl, rfl⟩
        go_wp2_with fail
        refine (HFL.out).mono ?_
        rintro e w' ⟨rfl, hl⟩
        have HL := Lib.hid (HFIN.out _ hl)
        clear hl
        go_wp2_with fail
        go_ret
        exact HL.out
    · obtain rfl : fits = true := by cases fits with | true => rfl | false => exact absurd (.inl rfl) hbad
      have hn0 : ¬ n < 0 := fun h => hbad (.inr h)
      obtain ⟨m, rfl⟩ : ∃ m : Nat, n = (m : Int) := ⟨n.toNat, by omega⟩
      have e1 : decide ((m : Int) < 0) = false := decide_eq_false hn0
      have hsub : (l.length : Int) - (pos : Int) = ((l.length - pos : Nat) : Int) := by omega
      have hw1 : IntKind.i64.wrap ((l.length : Int) - (pos : Int)) = ((l.length - pos : Nat) : Int) := by rw [hsub]; exact IntWalk.i64_in _ (by omega)
      have hw2 : IntKind.i64.wrap ((l.length - pos : Nat) : Int) = ((l.length - pos : Nat) : Int) := IntWalk.i64_in _ (by omega)
      by_cases hbig : l.length - pos < m
      · have HFIN : Hid (∀ w1 w', Below w.heap.size w w1 → LeftR base rb (RD.fail ⟨l, pos, none⟩ 2) w1 w' → TakeP base rb ⟨l, pos, none⟩ (m : Int) true w (.returned (.slice none 0 0)) w') := fun w1 w' hb hl => by
          refine TakeP.empty (by unfold RD.takeB; rw [if_neg (by rintro ⟨_, h1, h2, h3⟩; dsimp only at h3; omega)]) ?_
          have : RD.takeS ⟨l, pos, none⟩ (m : Int) true = RD.fail ⟨l, pos, none⟩ 2 := by
            unfold RD.takeS RD.fail
            rw [if_neg (by simp), if_neg hbad, if_pos (by dsimp only; omega), if_pos ⟨rfl, by decide⟩]
          rw [this]
          exact LeftR.trans (LeftR.same H.out hb) hl
        have e2 : decide (((l.length - pos : Nat) : Int) < (m : Int)) = true := decide_eq_true (by omega)
        have e3 : decide (l.length - pos < m) = true := decide_eq_true hbig
        clear hbad
        go_enter Tryd.func54, Tryd.ntmps54
        go_wp2_with fail
        refine (none_any w H.out).mono ?_
        rintro e w' ⟨rfl, rfl⟩
        go_upto_region 4 with fail
        refine wp_region_grow (by kernel_rfl) (by kernel_rfl) ?_
        repeat (first
          | ((with_reducible refine wpQuietGd ?_); (with_reducible refine wpQuiet_skip ?_ ?_); (· rfl); simp only [Act.put, List.setIfInBounds_toArray, List.set_cons_zero, List.set_cons_succ])
          | quiet_step (fail))
        refine wpQuiet_nil ?_
        intro w2 hb2
        have HB2 := Lib.hid hb2
        have HFL := Lib.hid (fail_any w2 (H.out.below hb2) 2 (by omega))
        clear hb2 hg1 hg2 hsub hw1 hw2
        go_wp2_with fail
        refine (HFL.out).mono ?_
        rintro e w' ⟨rfl, hl⟩
        have HL := Lib.hid (HFIN.out _ _ HB2.out hl)
        clear hl
        go_wp2_with fail
        go_ret
        exact HL.out
      · have e2 : decide (((l.length - pos : Nat) : Int) < (m : Int)) = false := decide_eq_false (by omega)
        have e3 : decide (l.length - pos < m) = false := decide_eq_false hbig
        obtain ⟨q, hsl, hqb⟩ := run_cut l HBS.out pos m (by omega)
        have hwp : IntKind.i64.wrap ((pos : Int) + (m : Int)) = (pos : Int) + (m : Int) := IntWalk.i64_in _ (by omega)
        have HQB := Lib.hid hqb
        have HFIN : Hid (∀ w3, Below w.heap.size w w3 → TakeP base rb ⟨l, pos, none⟩ (m : Int) true w (.returned (.slice q m m)) (w3.setCell ⟨rb, 2, none⟩ (.int .i64 ((pos : Int) + (m : Int))))) := fun w3 hb => by
          have hB : RD.takeB ⟨l, pos, none⟩ (m : Int) true = (l.drop pos).take m := by unfold RD.takeB; rw [if_pos ⟨rfl, rfl, by omega, by dsimp only; omega⟩]; rfl
          have hS : RD.takeS ⟨l, pos, none⟩ (m : Int) true = ⟨l, pos + m, none⟩ := by
            unfold RD.takeS
            rw [if_neg (by simp), if_neg hbad, if_neg (by dsimp only; omega)]; rfl
          have hml : ((l.drop pos).take m).length = m := by rw [List.length_take, List.length_drop]; omega
          have hI := HI.out.below hb
          have ht := (Turns.refl (fun k => k = rb) w3).setCell (p := ⟨rb, 2, none⟩) (fun _ => rfl) (.int .i64 ((pos : Int) + (m : Int)))
          refine ⟨q, m, by rw [hB, hml], ?_, ?_⟩
          · rw [hB, hml]
            refine HQB.out _ (fun b o u hp j hc => ?_)
            have hne : b ≠ rb := by
              intro he
              rcases HI.out.bytes with ⟨h1, h2⟩ | ⟨g, cap, cur, h1, _, h3, _⟩
              · rw [HV.out] at h1
                obtain ⟨rfl, _, _⟩ := Value.slice.inj h1
                cases hp
              · rw [HV.out] at h1
                obtain ⟨h4, _, _⟩ := Value.slice.inj h1
                rw [hp] at h4
                have h5 : b = g := congrArg (fun a : Option Addr => (a.getD ⟨0, 0, none⟩).block) h4
                exact HI.out.no8 g cur _ h3 (by omega)
            exact ht.cell (cell_below hc hb) hne
          · rw [hS]
            have hrow2 := heap_setCell_same _ rb 2 _ _ (.int .i64 ((pos : Int) + (m : Int))) hI.row
            refine ⟨⟨v, bv, ⟨?_, hI.low, hI.bytes.touch ht hI.no8, hI.fault.touch ht hI.noF, by show pos + m ≤ l.length; omega, hI.len⟩⟩, (Turns.of_below hb).trans ht (fun _ _ h => h), by rw [HI.out.cells.2.1, cell_of_row _ _ _ _ _ _ hrow2]; rfl⟩
            rw [hrow2]
            show _ = some (Obj.cells #[.bool true, v, .int .i64 ((pos + m : Nat) : Int), bv] _ _)
            rw [Int.natCast_add]
            rfl
        clear hbad hqb
        go_enter Tryd.func54, Tryd.ntmps54
        go_wp2_with fail
        refine (none_any w H.out).mono ?_
        rintro e w' ⟨rfl, rfl⟩
        go_upto_region 4 with fail
        refine wp_region_grow (by kernel_rfl) (by kernel_rfl) ?_
        repeat (first
          | ((with_reducible refine wpQuietGd ?_); (with_reducible refine wpQuiet_skip ?_ ?_); (· rfl); simp only [Act.put, List.setIfInBounds_toArray, List.set_cons_zero, List.set_cons_succ])
          | quiet_step (fail))
        refine wpQuiet_nil ?_
        intro w2 hb2
        have HB2 := Lib.hid hb2
        have hc1' := cell_below hc1 hb2
        have hc2' := cell_below hc2 hb2
        clear hg1 hg2 hb2
        have hg1 := cell_grown hc1'
        have hg2 := cell_grown hc2'
        go_upto_region 9 with fail
        refine wp_region_grow (by kernel_rfl) (by kernel_rfl) ?_
        repeat (first
          | ((with_reducible refine wpQuietGd ?_); (with_reducible refine wpQuiet_skip ?_ ?_); (· rfl); simp only [Act.put, List.setIfInBounds_toArray, List.set_cons_zero, List.set_cons_succ])
          | quiet_step (fail))
        refine wpQuiet_nil ?_
        intro w3 hb3
        have HB3 := Lib.hid (HB2.out.trans (hb3.mono HB2.out.size))
        have hc2'' := cell_below hc2' hb3
        have hfz' := (HI.out.below HB3.out).cells.2.2.2.2 2
        have HF := Lib.hid (HFIN.out w3 HB3.out)
        clear hg1 hg2 hb3 hsub hw1 hw2 hsl
        go_wp2_with fail
        go_ret
        exact HF.out
end Go.Proofs.YtdaigkcbmdcbcaaDoor.Rdr
