/- PARTS, JOINED: SCRIPTS: Parse, walked. Conditions: internal/bytealg.MaxLen holds an int. SCRIPTS: the document's split. Conditions: texts of less than 2^32 bytes. SCRIPTS: the reference's Read. Conditions: a text that fits. -/
import Derived.Test.YtcddgbobbogpgaaDoorSb1
import Derived.Test.YtcddgbobbogpgaaDoorSb2
import Derived.Test.YtcddgbobbogpgaaDoorSb3
import Derived.Test.YtcddgbobbogpgaaDoorSb4
import Derived.Test.YtcddgbobbogpgaaDoorSb5
import Derived.Test.YtcddgbobbogpgaaDoorSb6
import Derived.Test.YtcddgbobbogpgaaDoorSb7
import Derived.Test.YtcddgbobbogpgaaDoorSb8
namespace Go.Proofs.YtcddgbobbogpgaaDoor.Scr
open Go.RowKit Go.Mir Go.Mir.Hx Go.Mir.Parts Go.Shelf HexW Rpl
attribute [local go_sem] Oper.semAt_some

set_option maxRecDepth 100000 in
set_option maxHeartbeats 3200000 in
theorem parse_any (s : List UInt8) (w : World) (hs : s.length ≤ 900000) (hm : MaxL w) : Calls Tryd.prog 16 #[.string (S s)] w (ParseP s w) := by
  have hz := zeroE
  have hzc := zeroCf
  have HCO : Hid ((cfA Cf.zero).all (·.oneCell') = true) := by show _ = _; kernel_rfl
  by_cases b1 : 20000 < s.length
  · have d1 : decide ((20000 : Int) < (s.length : Int)) = true := decide_eq_true (by omega)
    have d1' : decide (20000 < s.length) = true := decide_eq_true b1
    have HPB : Hid (parseB s = (Cf.zero, [], 0, 3)) := by show _ = _; unfold parseB; rw [if_pos b1]
    clear b1
    go_enter Tryd.func16, Tryd.ntmps16
    go_upto_region 4 with fail
    generalize hW0 : (((((w.alloc (.cells (cfA Cf.zero) 46)).alloc (.cells #[.slice none 0 0] 47)).alloc (.cells #[.int .i64 0] 3)).alloc (.cells #[.int .i64 0] 48)).alloc (.cells (cfA Cf.zero) 46)).alloc (.cells #[.slice none 0 0] 47) = Z at *
    obtain ⟨h0, h1, h2, h3, h4, h5⟩ := start_six w Z hW0.symm
    obtain ⟨X1, X2, X3, X4, e1, e2, e3, e4, x1, x2, x3, xf, xt⟩ := px_store (_m := 0) h0 h1 h2 h3 (cfA Cf.zero) (.slice none 0 0) (.int .i64 0) (.int .i64 3)
    subst e1 e2 e3 e4
    have HXF := Lib.hid xf
    have HXT := Lib.hid xt
    have y1 := x1.cell
    have z1 := x1.frozen
    have y2 := x2.cell
    have z2 := x2.frozen
    have y3 := x3.cell
    have z3 := x3.frozen
    have H0 := Lib.hid h0
    have H4 := Lib.hid h4
    have H5 := Lib.hid h5
    clear x1 x2 x3 xf xt h0 h1 h2 h3 h4 h5 hW0
    simp only [Nat.add_assoc, Nat.reduceAdd]
    go_wp2_with (first
      | refine wpList_load_row rfl 46 _ rfl (w.heap.size + 4) rfl 46 (cfA Cf.zero) (0, 0) _ H4.out Tryd.underlying46 rfl (infoCf _ rfl) ?_
      | refine wpList_store_row rfl 46 _ _ rfl w.heap.size (cfA Cf.zero) rfl rfl 46 (cfA Cf.zero) H0.out (infoCf _ rfl) rfl HCO.out ?_)
    obtain ⟨r0, r1, r2, r3⟩ := HXF.out
    refine bodyPost_ret (results_4c rfl _ _ _ _ _ _ _ _ _ _ rfl r0 Tryd.underlying46 rfl (infoCf _ rfl) rfl rfl rfl (lv_sl _ _ _ r1.cell) (lv_int _ _ _ r2.cell) (lv_errno _ _ _ r3.cell)) rfl ?_
    exact ⟨none, 0, [], by rw [HPB.out]; rfl, by rw [HPB.out]; rfl, Es.nil _, H5.out.trans (HXT.out.below H5.out.size (fun k hk => hk.1))⟩
  have d1 : decide ((20000 : Int) < (s.length : Int)) = false := decide_eq_false (by omega)
  have d1' : decide (20000 < s.length) = false := decide_eq_false b1
  have HM := Lib.hid hm
  have HS : Hid (s.length ≤ 20000) := by show _ ≤ _; omega
  have HPB : Hid (parseB s = goB none (linesL s) 0) := by show _ = _; unfold parseB; rw [if_neg b1]
  clear b1 hs hm
  refine (callsIn_wide (n := 9)).1 ?_
  refine callsIn_of_wp_marks Tryd.func16 rfl trivial ?_ rfl
  simp only [Tryd.ntmps16, List.size_toArray, List.length_cons, List.length_nil, Nat.reduceAdd, Nat.reduceSub, Array.replicate_succ, Array.replicate_zero, List.push_toArray, List.append_toArray, List.nil_append, List.cons_append]
  gi_wp2_with (refine ⟨trivial, ?_⟩; gi_at_call 44; refine (callsIn_wide.2 (lines_any s _)).mono ?_; rintro e w' ⟨rfl, rfl⟩)
  clear d1 d1'
  generalize hW0 : ((((((((w.alloc (.cells (cfA Cf.zero) 46)).alloc (.cells #[.slice none 0 0] 47)).alloc (.cells #[.int .i64 0] 3)).alloc (.cells #[.int .i64 0] 48)).alloc (.cells (cfA Cf.zero) 46)).alloc (.cells #[.slice none 0 0] 47)).alloc (.cells #[.bool false] 4)).alloc (.cells #[.int .i64 0] 3)).alloc (.cells #[.string (S s)] 9) = W0 at *
  obtain ⟨h1, h2, h3⟩ := start_at w s W0 hW0.symm
  have HI0 := Lib.hid h1
  have HZ0 := Lib.hid h2
  have HBX := Lib.hid h3
  have HM0 := Lib.hid (HM.out.below h1.low)
  have hml : Tryd.lays146_ren.g 1 < w.heap.size := by
    obtain ⟨m, hm⟩ := HM.out
    exact block_lt_of_cell hm
  have hseq := lines1_seq 8 (by omega) (w.heap.size + 8) w.heap.size s W0 HM0.out hml (by omega) h3 (by have := HS.out; omega)
  have HML := Lib.hid hml
  clear h1 h2 h3 hW0 HBX hml
  simp only [Nat.add_assoc, Nat.reduceAdd]
  refine rangeU (by omega) rfl (enters_of Tryd.func63 (by kernel_rfl) rfl) hseq (fun k hk => ⟨by have := HZ0.out; omega, by have := HZ0.out; omega⟩) (fun k hk => by have := HZ0.out; omega) (Below.refl _ _) (fun _ => rfl) (fun s A B row hs _ _ => hs) (PI w (linesL s)) (fun c _ W => ∃ m : Int, (c = Code.ret ∧ parseB s = (Cf.zero, [], m, 4)) ∧ PX w m W) (pi_own w _ _ (by have := HZ0.out; omega)) ?hIU ?hIx HI0.out
    (fun i => { tmps := #[.string (S s), undef, .pointer (some ⟨w.heap.size, 0, none⟩), .pointer (some ⟨w.heap.size + 1, 0, none⟩), .pointer (some ⟨w.heap.size + 2, 0, none⟩), .pointer (some ⟨w.heap.size + 3, 0, none⟩), .pointer (some ⟨w.heap.size + 4, 0, none⟩), .pointer (some ⟨w.heap.size + 5, 0, none⟩), .pointer (some ⟨w.heap.size + 6, 0, none⟩), .pointer (some ⟨w.heap.size + 7, 0, none⟩), .int .i64 ((i : Int) + 1), .string (S ((linesL s).getD i [])), undef, undef, undef, .string (S s), .int .i64 (s.length : Int), .bool false, undef, .string (S s), .func (.func 63) #[] #[.pointer (some ⟨w.heap.size + 8, 0, none⟩)], .int .i64 ((i : Int) + 1), .string (S ((linesL s).getD i [])), undef, undef, undef, undef, undef, undef, undef, undef, undef, undef, undef, undef, undef, undef, undef, undef, undef, undef, undef, undef, undef, undef, undef, undef, undef, undef, undef, undef, undef, undef, undef, undef, undef, undef, undef, undef, undef, undef, undef, undef, undef, undef, undef, undef, undef, undef, undef, undef, undef, undef, undef], defers := [] }) ?assign ?body ?done ?stop
  case hIU =>
    rintro pre A B ⟨⟨st, l, h1, h2, h3, h4⟩, lo, bg⟩ ht
    exact ⟨⟨st, l, h1, h2, h3, h4.turns ht (fun k hk => .inl hk)⟩, ht.below lo.size (fun k hk => by omega) |> lo.trans, Nat.le_trans bg ht.size⟩
  case hIx =>
    intro c
    exact px_own w (fun _ m => c = Code.ret ∧ parseB s = (Cf.zero, [], m, 4)) _ (by have := HZ0.out; omega)
  case assign =>
    intro l x W K hK
    unfold lEnc
    gi_wp2
    exact hK
  case body =>
    rintro L pre i W ⟨⟨st, l, h1, h2, h3, h4⟩, lo, bg⟩ ⟨rfl, hi⟩
    rw [List.length_range] at h1 h3 h4
    have HRN := Lib.hid (fun st' (h : stepL st ((linesL s).getD i []) = some st') => (run_next hi h1).trans h)
    have HBAD := Lib.hid (fun (h : stepL st ((linesL s).getD i []) = none) => HPB.out.trans (parse_bad hi h1 h))
    have HXL : Hid (((linesL s).getD i []).length ≤ 20000) := by
      show _ ≤ _
      have h5 := (lines_sum s.length s (Nat.le_refl _)).2 ((linesL s).getD i []) (by rw [List.getD_eq_getElem?_getD, List.getElem?_eq_getElem hi]; exact List.getElem_mem hi)
      have := HS.out
      omega
    have HIL : Hid (i ≤ 20000) := by show _ ≤ _; have := lines_le s; have := HS.out; omega
    obtain ⟨p, cap, l1, l2, l3⟩ := h4.l5
    have hc7 := h4.n7.cell
    have hf7 := h4.n7.frozen
    have hT1 : Turns (fun k => k = w.heap.size + 7) W (W.setCell ⟨w.heap.size + 7, 0, none⟩ (.int .i64 ((i : Int) + 1))) := (Turns.refl (fun k => k = w.heap.size + 7) W).setCell (p := ⟨w.heap.size + 7, 0, none⟩) (fun _ => rfl) _
    have hP1 : PS w.heap.size (i + 1) ((st.map (·.1)).getD Cf.zero) st.isSome l (W.setCell ⟨w.heap.size + 7, 0, none⟩ (.int .i64 ((i : Int) + 1))) :=
      h4.upd hT1 (fun k hk => by omega) (hT1.keep h4.c4 (by omega)) (hT1.keep h4.s6 (by omega)) (h4.n7.set _)
    have HT1 := Lib.hid (turns_wide hT1 (T := PT w.heap.size (.slice p l.length cap)) (fun k hk => .inl (by omega)))
    have HP1 := Lib.hid hP1
    have HL2 := Lib.hid l2
    have HEV := Lib.hid h2
    have HLL := Lib.hid h3
    have HLO := Lib.hid lo
    have HBG := Lib.hid bg
    have hs6 := hP1.s6.cell
    have HL1 := Lib.hid l1
    clear h1 h2 h3 h4 l1 l2 l3 lo bg hT1 hP1 hi
    generalize (linesL s).getD i [] = x at *
    by_cases hsk : x = [] ∨ x.head? = some 35
    · have HSTEP : Hid (stepL st x = some st) := by show _ = _; unfold stepL; rw [if_pos hsk]
      by_cases hx0 : x = []
      · have q1 : (x == []) = true := beq_iff_eq.2 hx0
        clear hsk hx0
        gi_wp2_with (refine ⟨trivial, ?_⟩)
        exact round_end HZ0.out HL2.out HT1.out (HRN.out _ HSTEP.out) HEV.out (by have := HLL.out; omega) HP1.out HLO.out HBG.out
      · have q1 : (x == []) = false := beq_eq_false_iff_ne.2 hx0
        have q2 : decide (x.head? = some 35) = true := decide_eq_true (hsk.resolve_left hx0)
        clear hsk hx0
        gi_wp2_with (refine ⟨trivial, ?_⟩; gi_at_call 45; refine (CallsIn.inRound L (callsIn_wide.2 (hasp_any x _))).mono ?_; rintro e w' ⟨rfl, rfl⟩)
        exact round_end HZ0.out HL2.out HT1.out (HRN.out _ HSTEP.out) HEV.out (by have := HLL.out; omega) HP1.out HLO.out HBG.out
    have q1 : (x == []) = false := beq_eq_false_iff_ne.2 (fun h => hsk (.inl h))
    have q2 : decide (x.head? = some 35) = false := decide_eq_false (fun h => hsk (.inr h))
    have HSK : Hid (¬ (x = [] ∨ x.head? = some 35)) := hsk
    have HM1 : Hid (MaxL (W.setCell ⟨w.heap.size + 7, 0, none⟩ (.int .i64 ((i : Int) + 1)))) := maxL_turns (HM.out.below HLO.out) ((Turns.refl (fun k => k = w.heap.size + 7) W).setCell (p := ⟨w.heap.size + 7, 0, none⟩) (fun _ => rfl) _) (by have := HML.out; show ¬ _ = _; omega)
    clear hsk
    cases st with
    | none =>
      have HSP := Lib.hid (split_any x (W.setCell ⟨w.heap.size + 7, 0, none⟩ (.int .i64 ((i : Int) + 1))) (by have := HXL.out; omega) HM1.out)
      gi_wp2_with (refine wpListIn_of_list (fun _ _ h => h) _ _ _ (by rfl) ?_)
      go_wp2_with fail
      generalize W.setCell ⟨w.heap.size + 7, 0, none⟩ (.int .i64 ((i : Int) + 1)) = W1 at *
      clear hc7 hf7
      gi_wp2_with (refine wpListIn_of_list (fun _ _ h => h) _ _ _ (by rfl) ?_)
      go_wp2_with fail
      refine (hasp_any x _).mono ?_
      rintro e w' ⟨rfl, hw'⟩
      obtain rfl := hw'.symm
      go_wp2_with fail
      gi_wp2_with (refine wpListIn_of_list (fun _ _ h => h) _ _ _ (by rfl) ?_)
      go_wp2_with fail
      gi_wp2_with (refine wpListIn_of_list (fun _ _ h => h) _ _ _ (by rfl) ?_)
      go_wp2_with fail
      refine HSP.out.mono ?_
      rintro e w2 ⟨rfl, hws, hb2⟩
      obtain ⟨s0, r, hsp⟩ := sp_form x
      have HWL := Lib.hid (sp_len x)
      have hln := sp_length x
      have HCF : Hid (stepL none x = (if s0 = confW then (if r.length = 6 then (numsM 100000 r).map Cf.of else none) else none).map fun c => some (c, [])) := by
        show _ = _
        unfold stepL
        rw [if_neg HSK.out]
        show (confB x).map _ = _
        unfold confB
        rw [hsp]; rfl
      rw [hsp] at hws HWL hln ⊢
      rw [List.length_cons] at hln
      have HP2 := Lib.hid (HP1.out.below hb2)
      have HT2 := Lib.hid (HT1.out.trans (Turns.of_below (S := PT w.heap.size (.slice p l.length cap)) hb2) (fun _ _ h => h))
      have HBG1 : Hid (w.heap.size + 9 ≤ W1.heap.size) := Nat.le_trans HBG.out HT1.out.size
      have HWS := Lib.hid hws
      have HC0 : Hid (w2.cell? ⟨W1.heap.size, 0, none⟩ = some (.string (S s0))) := hws.str (j := 0) (by simp)
      have hcw := HC0.out
      have hgw : W1.heap.size < w2.heap.size := block_lt_of_cell hcw
      clear hws hb2 HSP hsp HP1 HT1 hs6 HM1
      generalize W1.heap.size = gw at *
      obtain ⟨NL, hNL⟩ : ∃ NL, (s0 :: r).length = NL := ⟨_, rfl⟩
      have HNL := Lib.hid hNL
      rw [hNL] at HWS ⊢
      have h1n : 1 ≤ NL := by rw [← hNL]; simp
      have h0i : (0 : Int) < (NL : Int) := by omega
      have h1i : (1 : Int) ≤ (NL : Int) := by omega
      have h0n : 0 < NL := by omega
      clear hNL
      by_cases hcf : s0 = confW
      · have q3 : (s0 == [99, 111, 110, 102, 105, 103]) = true := beq_iff_eq.2 hcf
        have hcut := cutSR HWS.out 1 1 rfl h1n
        rw [if_pos hcf] at HCF
        have hal := Below.allocs w2 (.cells #[.pointer (some ⟨w.heap.size + 4, 0, none⟩), .pointer (some ⟨w.heap.size + 4, 1, none⟩), .pointer (some ⟨w.heap.size + 4, 2, none⟩), .pointer (some ⟨w.heap.size + 4, 3, none⟩), .pointer (some ⟨w.heap.size + 4, 4, none⟩), .pointer (some ⟨w.heap.size + 4, 5, none⟩)] 107)
        have HDR := Lib.hid (ws_drop (HWS.out.below hal) 1 h1n)
        have HP3 := Lib.hid (HP2.out.below hal)
        have HT3 := Lib.hid (HT2.out.trans (Turns.of_below (S := PT w.heap.size (.slice p l.length cap)) hal) (fun _ _ h => h))
        have HLT2 : Hid (w.heap.size + 9 ≤ w2.heap.size) := by show _ ≤ _; have := HBG1.out; omega
        have HNM := Lib.hid (numbers_any (w.heap.size + 4) 46 (cfA Cf.zero) [0, 1, 2, 3, 4, 5] (fun o ho => by show o < 6; simp at ho; omega) (show 6 ≤ 1000 by decide) 100000 (by omega) (cutS (some ⟨gw, 0, none⟩) NL 1) (NL - 1) (NL - 1) r (some ⟨w2.heap.size, 0, none⟩) 6 _ HP3.out.c4
          (fun w' ht => sl_turn HDR.out ht (fun a ha hg => by
            have hg : a.block = w.heap.size + 4 := hg
            have h2 := HBG1.out
            unfold cutS at ha
            split at ha
            · obtain rfl := Option.some.inj ha
              have hg : gw = w.heap.size + 4 := hg
              omega
            · obtain rfl := Option.some.inj ha
              rw [addr_add_block] at hg
              have hg : gw = w.heap.size + 4 := hg
              omega))
          (fun w' ht => sl_turn (ptrs_sl w2 (w.heap.size + 4) 107 [0, 1, 2, 3, 4, 5] (show 6 ≤ 1000 by decide)) ht (fun a ha hg => by obtain rfl := Option.some.inj ha; have hg : w2.heap.size = w.heap.size + 4 := hg; have := HLT2.out; omega))
          (fun y hy => by have := HWL.out y (List.mem_cons_of_mem _ hy); have := HXL.out; omega))
        clear hcf hal HP2 HT2
        go_wp2_with fail
        gi_wp2_with (refine wpListIn_of_list (fun _ _ h => h) _ _ _ (by rfl) ?_)
        go_wp2_with (refine wpList_unguard rfl (wpList_buildPtrs6 rfl _ _ _ _ _ _ rfl (some ⟨w.heap.size + 4, 0, none⟩) (some ⟨w.heap.size + 4, 1, none⟩) (some ⟨w.heap.size + 4, 2, none⟩) (some ⟨w.heap.size + 4, 3, none⟩) (some ⟨w.heap.size + 4, 4, none⟩) (some ⟨w.heap.size + 4, 5, none⟩) rfl rfl rfl rfl rfl rfl ?_))
        refine HNM.out.mono ?_
        rintro y w4 ⟨ht4, hcase⟩
        have HT4 := Lib.hid (HT3.out.trans (turns_wide ht4 (T := PT w.heap.size (.slice p l.length cap)) (fun k hk => .inl (by omega))) (fun _ _ h => h))
        have hs6 : Boxed w4 (w.heap.size + 6) 4 (.bool false) := ht4.keep HP3.out.s6 (by omega)
        have hs7 : Boxed w4 (w.heap.size + 7) 3 (.int .i64 ((i + 1 : Nat) : Int)) := ht4.keep HP3.out.n7 (by omega)
        have hc6 := hs6.cell
        have hf6 := hs6.frozen
        have HS6 := Lib.hid hs6
        have HS7 := Lib.hid hs7
        have HKT := Lib.hid ht4
        clear hs6 hs7 hcw hcut q3
        rcases hcase with ⟨hlen, lns, hnl, rfl, hrow⟩ | ⟨hbad, rfl, A', -, hrow⟩
        · have hlen : r.length = 6 := hlen
          rw [putsC lns ((numsM_back hnl).2.2.trans hlen)] at hrow
          have HROW := Lib.hid hrow
          have HSTEP : Hid (stepL none x = some (some (Cf.of lns, []))) := by show _ = _; rw [HCF.out, if_pos hlen, hnl]; rfl
          clear ht4 hlen hnl hrow HCF
          go_wp2_with fail
          have HPZ : Hid (PS w.heap.size (i + 1) (Cf.of lns) true l (w4.setCell ⟨w.heap.size + 6, 0, none⟩ (.bool true))) :=
            HP3.out.upd (S := fun k => k = w.heap.size + 4 ∨ k = w.heap.size + 6) ((turns_wide HKT.out (fun k hk => .inl hk)).setCell (p := ⟨w.heap.size + 6, 0, none⟩) (fun _ => .inr rfl) _) (fun k hk => by omega) (cells_set HROW.out (by omega)) (HS6.out.set _) (cells_set HS7.out (by omega))
          have HTZ : Hid (Turns (PT w.heap.size (.slice p l.length cap)) W (w4.setCell ⟨w.heap.size + 6, 0, none⟩ (.bool true))) := HT4.out.setCell (p := ⟨w.heap.size + 6, 0, none⟩) (fun _ => .inl (by show _ ≤ w.heap.size + 6 ∧ w.heap.size + 6 < _; omega)) _
          have hs6 := HPZ.out.s6.cell
          clear hc6 hf6 HS6 HS7 HKT HROW HP3 HT3 HT4 HNM
          generalize w4.setCell ⟨w.heap.size + 6, 0, none⟩ (.bool true) = Z at *
          gi_wp2_with (refine wpListIn_of_list (fun _ _ h => h) _ _ _ (by rfl) ?_)
          go_wp2_with fail
          gi_wp2
          exact round_end HZ0.out HL2.out HTZ.out (HRN.out _ HSTEP.out) (l' := l) HEV.out (by have := HLL.out; omega) HPZ.out HLO.out HBG.out
        · have HSTEP : Hid (stepL none x = none) := by
            show _ = _
            rw [HCF.out]
            rcases hbad with hb | hb
            · have hb : ¬ r.length = 6 := hb
              rw [if_neg hb]; rfl
            · rw [hb]
              split <;> rfl
          clear hrow hbad HCF
          have HR : Hid ((w4.setCell ⟨w.heap.size + 6, 0, none⟩ (.bool false)).heap[w.heap.size]? = some (.cells (cfA Cf.zero) 46 (0, 0)) ∧ Boxed (w4.setCell ⟨w.heap.size + 6, 0, none⟩ (.bool false)) (w.heap.size + 1) 47 (.slice none 0 0) ∧ Boxed (w4.setCell ⟨w.heap.size + 6, 0, none⟩ (.bool false)) (w.heap.size + 2) 3 (.int .i64 0) ∧ Boxed (w4.setCell ⟨w.heap.size + 6, 0, none⟩ (.bool false)) (w.heap.size + 3) 48 (.int .i64 0)) :=
            ⟨cells_set (ht4.keep HP3.out.r0 (by omega)) (by omega), cells_set (ht4.keep HP3.out.r1 (by omega)) (by omega), cells_set (ht4.keep HP3.out.r2 (by omega)) (by omega), cells_set (ht4.keep HP3.out.r3 (by omega)) (by omega)⟩
          clear ht4
          go_wp2_with fail
          have hs6 := (HS6.out.set (.bool false)).cell
          have HTZ : Hid (Turns (PT w.heap.size (.slice p l.length cap)) W (w4.setCell ⟨w.heap.size + 6, 0, none⟩ (.bool false))) := HT4.out.setCell (p := ⟨w.heap.size + 6, 0, none⟩) (fun _ => .inl (by show _ ≤ w.heap.size + 6 ∧ w.heap.size + 6 < _; omega)) _
          clear hc6 hf6 HS6 HS7 HKT HP3 HT3 HT4 HNM
          generalize w4.setCell ⟨w.heap.size + 6, 0, none⟩ (.bool false) = Z at *
          gi_wp2_with (refine wpListIn_of_list (fun _ _ h => h) _ _ _ (by rfl) ?_)
          go_wp2_with fail
          skip
          -- the stores of an error: in the world Z: HR (its rows), HTZ (Turns .. W Z), HSTEP (stepL = none)
          obtain ⟨X1, X2, X3, X4, e1, e2, e3, e4, x1, x2, x3, xf, xt⟩ := px_store (_m := (i : Int) + 1) HR.out.1 HR.out.2.1 HR.out.2.2.1 HR.out.2.2.2 (cfA Cf.zero) (.slice none 0 0) (.int .i64 ((i : Int) + 1)) (.int .i64 4)
          subst e1 e2 e3 e4
          have HXF := Lib.hid xf
          have HXT := Lib.hid (HTZ.out.trans (turns_wide xt (T := PT w.heap.size (.slice p l.length cap)) (fun k hk => .inl (by omega))) (fun _ _ h => h))
          have y1 := x1.cell
          have z1 := x1.frozen
          have y2 := x2.cell
          have z2 := x2.frozen
          have y3 := x3.cell
          have z3 := x3.frozen
          clear x1 x2 x3 xf xt
          gi_wp2_with (refine wpListIn_of_list (fun _ _ h => h) _ _ _ (by rfl) ?_)
          go_wp2_with (first
            | refine Rdr.wpList_build rfl 46 _ rfl [] rfl (cfA Cf.zero) (by kernel_rfl) ?_
            | refine wpList_store_row rfl 46 _ _ rfl w.heap.size (cfA Cf.zero) rfl rfl 46 (cfA Cf.zero) HR.out.1 (infoCf _ rfl) rfl HCO.out ?_)
          gi_wp2
          exact round_bad HZ0.out HL2.out HXT.out (HBAD.out HSTEP.out) rfl HXF.out HLO.out HBG.out
      · have q3 : (s0 == [99, 111, 110, 102, 105, 103]) = false := beq_eq_false_iff_ne.2 hcf
        have HSTEP : Hid (stepL none x = none) := by show _ = _; rw [HCF.out, if_neg hcf]; rfl
        have hc6 := HP2.out.s6.cell
        have hf6 := HP2.out.s6.frozen
        clear hcf HCF
        go_wp2_with fail
        gi_wp2_with (refine wpListIn_of_list (fun _ _ h => h) _ _ _ (by rfl) ?_)
        go_wp2_with fail
        have HR : Hid ((w2.setCell ⟨w.heap.size + 6, 0, none⟩ (.bool false)).heap[w.heap.size]? = some (.cells (cfA Cf.zero) 46 (0, 0)) ∧ Boxed (w2.setCell ⟨w.heap.size + 6, 0, none⟩ (.bool false)) (w.heap.size + 1) 47 (.slice none 0 0) ∧ Boxed (w2.setCell ⟨w.heap.size + 6, 0, none⟩ (.bool false)) (w.heap.size + 2) 3 (.int .i64 0) ∧ Boxed (w2.setCell ⟨w.heap.size + 6, 0, none⟩ (.bool false)) (w.heap.size + 3) 48 (.int .i64 0)) :=
          ⟨cells_set HP2.out.r0 (by omega), cells_set HP2.out.r1 (by omega), cells_set HP2.out.r2 (by omega), cells_set HP2.out.r3 (by omega)⟩
        have hs6 := (HP2.out.s6.set (.bool false)).cell
        have HTZ : Hid (Turns (PT w.heap.size (.slice p l.length cap)) W (w2.setCell ⟨w.heap.size + 6, 0, none⟩ (.bool false))) := HT2.out.setCell (p := ⟨w.heap.size + 6, 0, none⟩) (fun _ => .inl (by show _ ≤ w.heap.size + 6 ∧ w.heap.size + 6 < _; omega)) _
        clear hc6 hf6 hcw
        generalize w2.setCell ⟨w.heap.size + 6, 0, none⟩ (.bool false) = Z at *
        gi_wp2_with (refine wpListIn_of_list (fun _ _ h => h) _ _ _ (by rfl) ?_)
        go_wp2_with fail
        skip
        -- the stores of an error: in the world Z: HR (its rows), HTZ (Turns .. W Z), HSTEP (stepL = none)
        obtain ⟨X1, X2, X3, X4, e1, e2, e3, e4, x1, x2, x3, xf, xt⟩ := px_store (_m := (i : Int) + 1) HR.out.1 HR.out.2.1 HR.out.2.2.1 HR.out.2.2.2 (cfA Cf.zero) (.slice none 0 0) (.int .i64 ((i : Int) + 1)) (.int .i64 4)
        subst e1 e2 e3 e4
        have HXF := Lib.hid xf
        have HXT := Lib.hid (HTZ.out.trans (turns_wide xt (T := PT w.heap.size (.slice p l.length cap)) (fun k hk => .inl (by omega))) (fun _ _ h => h))
        have y1 := x1.cell
        have z1 := x1.frozen
        have y2 := x2.cell
        have z2 := x2.frozen
        have y3 := x3.cell
        have z3 := x3.frozen
        clear x1 x2 x3 xf xt
        gi_wp2_with (refine wpListIn_of_list (fun _ _ h => h) _ _ _ (by rfl) ?_)
        go_wp2_with (first
          | refine Rdr.wpList_build rfl 46 _ rfl [] rfl (cfA Cf.zero) (by kernel_rfl) ?_
          | refine wpList_store_row rfl 46 _ _ rfl w.heap.size (cfA Cf.zero) rfl rfl 46 (cfA Cf.zero) HR.out.1 (infoCf _ rfl) rfl HCO.out ?_)
        gi_wp2
        exact round_bad HZ0.out HL2.out HXT.out (HBAD.out HSTEP.out) rfl HXF.out HLO.out HBG.out
    | some cl =>
      obtain ⟨c0, l0⟩ := cl
      have HEV : Hid (evs l = l0) := HEV.out
      have HSR : Hid (stepL (some (c0, l0)) x = (readE x).map fun e => some (c0, l0 ++ [e])) := by show _ = _; unfold stepL; rw [if_neg HSK.out]
      have HRQ := Lib.hid (readQ_any x (W.setCell ⟨w.heap.size + 7, 0, none⟩ (.int .i64 ((i : Int) + 1))) (by have := HXL.out; omega) HM1.out)
      have HLT1 : Hid (W.heap.size ≤ (W.setCell ⟨w.heap.size + 7, 0, none⟩ (.int .i64 ((i : Int) + 1))).heap.size) := by show _ ≤ _; simp [World.setCell]
      have HL11 : Hid (Boxed (W.setCell ⟨w.heap.size + 7, 0, none⟩ (.int .i64 ((i : Int) + 1))) (w.heap.size + 5) 47 (.slice p l.length cap)) := cells_set HL1.out (by omega)
      gi_wp2_with (refine wpListIn_of_list (fun _ _ h => h) _ _ _ (by rfl) ?_)
      go_wp2_with fail
      generalize W.setCell ⟨w.heap.size + 7, 0, none⟩ (.int .i64 ((i : Int) + 1)) = W1 at *
      clear hc7 hf7
      gi_wp2_with (refine wpListIn_of_list (fun _ _ h => h) _ _ _ (by rfl) ?_)
      go_wp2_with fail
      refine (hasp_any x _).mono ?_
      rintro e w' ⟨rfl, hw'⟩
      obtain rfl := hw'.symm
      clear hw'
      go_wp2_with fail
      gi_wp2_with (refine wpListIn_of_list (fun _ _ h => h) _ _ _ (by rfl) ?_)
      go_wp2_with fail
      gi_wp2_with (refine wpListIn_of_list (fun _ _ h => h) _ _ _ (by rfl) ?_)
      go_wp2_with fail
      refine HRQ.out.mono ?_
      rintro e w2 ⟨pb, cb, q, cq, rfl, hat, hfar, hb2⟩
      obtain ⟨R, hR⟩ : ∃ R, (readE x).getD (Ev.zero 0) = R := ⟨_, rfl⟩
      rw [hR] at hat ⊢
      obtain ⟨A, hA⟩ : ∃ A, A = evA R pb cb q cq := ⟨_, rfl⟩
      have HAS : Hid (A.size = 103) := by show _ = _; rw [hA]; exact evA_size hat.wf _ _ _ _
      have HAO : Hid (A.all (·.oneCell') = true) := by show _ = _; rw [hA]; exact evA_one _ _ _ _ _
      have HAE := Lib.hid hA
      have HZS : Hid (zE.size = 103) := zE_size
      rw [← hA]
      have hbx := box_below w2 zE A 31
      have HQ := Lib.hid (setRow_heap _ _ _ A _ _ (heap_alloc_last w2 (.cells zE 31)))
      have HPZ := Lib.hid ((HP1.out.below hb2).below hbx)
      have HTZ := Lib.hid ((HT1.out.trans (Turns.of_below (S := PT w.heap.size (.slice p l.length cap)) hb2) (fun _ _ h => h)).trans (Turns.of_below (S := PT w.heap.size (.slice p l.length cap)) hbx) (fun _ _ h => h))
      have HLZ : Hid (Boxed ((w2.alloc (.cells zE 31)).setRow w2.heap.size A) (w.heap.size + 5) 47 (.slice p l.length cap)) := Below.keepOld hbx (Below.keepOld hb2 HL11.out)
      have HAT := Lib.hid (hat.below hbx)
      have HFAR := Lib.hid hfar
      have HSZ2 := Lib.hid hb2.size
      clear hat hfar hb2 hA hbx HRQ hs6 HP1 HT1 HL11
      cases hre : readE x with
      | none =>
        have HSTEP : Hid (stepL (some (c0, l0)) x = none) := by show _ = _; rw [HSR.out, hre]; rfl
        have HR := Lib.hid (And.intro HPZ.out.r0 (And.intro HPZ.out.r1 (And.intro HPZ.out.r2 HPZ.out.r3)))
        clear hre hR HSR
        go_wp2_with (refine wpList_store_row rfl 31 _ _ rfl w2.heap.size A rfl rfl 31 zE (heap_alloc_last _ _) (infoE _ HAS.out) (by rw [HAS.out]; exact HZS.out) HAO.out ?_)
        generalize (w2.alloc (.cells zE 31)).setRow w2.heap.size A = Z at *
        gi_wp2_with (refine wpListIn_of_list (fun _ _ h => h) _ _ _ (by rfl) ?_)
        go_wp2_with fail
        skip
        -- the stores of an error: in the world Z: HR (its rows), HTZ (Turns .. W Z), HSTEP (stepL = none)
        obtain ⟨X1, X2, X3, X4, e1, e2, e3, e4, x1, x2, x3, xf, xt⟩ := px_store (_m := (i : Int) + 1) HR.out.1 HR.out.2.1 HR.out.2.2.1 HR.out.2.2.2 (cfA Cf.zero) (.slice none 0 0) (.int .i64 ((i : Int) + 1)) (.int .i64 4)
        subst e1 e2 e3 e4
        have HXF := Lib.hid xf
        have HXT := Lib.hid (HTZ.out.trans (turns_wide xt (T := PT w.heap.size (.slice p l.length cap)) (fun k hk => .inl (by omega))) (fun _ _ h => h))
        have y1 := x1.cell
        have z1 := x1.frozen
        have y2 := x2.cell
        have z2 := x2.frozen
        have y3 := x3.cell
        have z3 := x3.frozen
        clear x1 x2 x3 xf xt
        gi_wp2_with (refine wpListIn_of_list (fun _ _ h => h) _ _ _ (by rfl) ?_)
        go_wp2_with (first
          | refine Rdr.wpList_build rfl 46 _ rfl [] rfl (cfA Cf.zero) (by kernel_rfl) ?_
          | refine wpList_store_row rfl 46 _ _ rfl w.heap.size (cfA Cf.zero) rfl rfl 46 (cfA Cf.zero) HR.out.1 (infoCf _ rfl) rfl HCO.out ?_)
        gi_wp2
        exact round_bad HZ0.out HL2.out HXT.out (HBAD.out HSTEP.out) rfl HXF.out HLO.out HBG.out
      | some ev =>
        have hev : ev = R := by rw [← hR, hre]; rfl
        subst hev
        have HSTEP : Hid (stepL (some (c0, l0)) x = some (some (c0, l0 ++ [ev]))) := by show _ = _; rw [HSR.out, hre]; rfl
        obtain ⟨r, hr⟩ : ∃ r : ER, r = ⟨ev, pb, cb, q, cq⟩ := ⟨_, rfl⟩
        have hrA : r.A = A := by rw [hr, HAE.out]; rfl
        have HRE : Hid (r.e = ev) := by show _ = _; rw [hr]
        obtain ⟨p2, cap2, m1, m2, m3⟩ := HPZ.out.l5
        have hpc : p2 = p ∧ cap2 = cap := by
          have h1 := m1.cell
          rw [HLZ.out.cell] at h1
          injection h1 with h1
          injection h1 with h1 _ h2
          exact ⟨h1.symm, h2.symm⟩
        obtain ⟨rfl, rfl⟩ := hpc
        have HOZ := Lib.hid m2
        have HEZ := Lib.hid m3
        have hfz : Far r (w.heap.size + 9) (.slice p2 l.length cap2) := by
          have h5 := HBG.out
          have h6 := HLT1.out
          have key : ∀ a : Addr, W1.heap.size ≤ a.block → w.heap.size + 9 ≤ a.block ∧ ¬ (Value.slice p2 l.length cap2).ownBlock = some a.block := fun a ha => ⟨by omega, fun hk => by have := (HL2.out.lt _ hk).2; omega⟩
          rw [hr]
          exact ⟨fun a ha _ => key a (HFAR.out.1 a ha), fun a ha _ => key a (HFAR.out.2 a ha)⟩
        have HFZ : Hid (r.At _ ∧ Far r (w.heap.size + 9) (.slice p2 l.length cap2)) := ⟨by rw [hr]; exact HAT.out, hfz⟩
        have HLR : Hid (r.l.length = 103) := ER.len HFZ.out.1
        have HSZZ : Hid (w.heap.size + 9 ≤ ((w2.alloc (.cells zE 31)).setRow w2.heap.size A).heap.size) := Nat.le_trans HBG.out HTZ.out.size
        clear hre hR HSR m1 m2 m3 hfz hr HAT HAE
        subst hrA
        go_wp2_with (refine wpList_store_row rfl 31 _ _ rfl w2.heap.size r.A rfl rfl 31 zE (heap_alloc_last _ _) (infoE _ HAS.out) (by rw [HAS.out]; exact HZS.out) HAO.out ?_)
        generalize (w2.alloc (.cells zE 31)).setRow w2.heap.size r.A = Z at *
        generalize w2.heap.size = gx at *
        have hl5 := HLZ.out.cell
        have HX8 := Lib.hid (made_er Z r 31 HLR.out)
        have hal := Below.allocs Z (.cells r.A 31)
        have HO8 := Lib.hid (own_touch HOZ.out (Turns.of_below (S := fun _ => False) hal) (fun _ _ h => h))
        have HS8 : Hid (w.heap.size + 9 ≤ (Z.alloc (.cells r.A 31)).heap.size) := Nat.le_trans HSZZ.out hal.size
        have hnl : l.length ≤ 20000 := by have := HLL.out; have := HIL.out; omega
        clear hal
        gi_wp2_with (refine wpListIn_of_list (fun _ _ h => h) _ _ _ (by rfl) ?_)
        go_wp2_with fail
        gi_wp2_with (refine wpListIn_of_list (fun _ _ h => h) _ _ _ (by rfl) ?_)
        go_wp2_with (first
          | refine wpList_load_row rfl 31 _ rfl gx rfl 31 r.A (0, 0) _ HQ.out Tryd.underlying31 rfl (infoE _ HAS.out) ?_
          | refine wpList_buildOne rfl 47 31 _ rfl r.A rfl 103 Tryd.underlying47 (by kernel_rfl) (by omega) (by omega) HAS.out ?_
          | (at_builtin; refine wpList_append_nx rfl _ _ 47 rfl (base := w.heap.size + 9) Tryd.underlying47 infoEE (by rw [show (Value.agg zE).cells = zE from rfl]; exact zE_size) (by omega) rfl HO8.out rfl HX8.out (ER.ones r) ⟨by omega, by omega⟩ HS8.out ?_))
        intro p9 c9 w9 ho9 hgr hnx _
        have hb9 : Boxed w9 (w.heap.size + 5) 47 (.slice p2 l.length cap2) := (HLZ.out.alloc _).kept hgr (fun e => by have := (HOZ.out.lt _ e.symm).1; omega)
        have hc9 := hb9.cell
        have hf9 := hb9.frozen
        have HPE := Lib.hid (HPZ.out.push HLZ.out HOZ.out HEZ.out HFZ.out ho9 hgr (fun k hk => by rw [World.size_alloc]; exact hnx k hk))
        have HTE := Lib.hid (HTZ.out.trans (turns_wide (turns_push (v' := .slice p9 (l.length + 1) c9) (B := w.heap.size + 5) hgr) (T := PT w.heap.size (.slice p2 l.length cap2)) (fun k hk => hk.imp (fun e => by omega) id)) (fun _ _ h => h))
        clear ho9 hgr hnx hb9 hl5 HO8 HX8 HS8
        go_wp2_with fail
        exact round_end HZ0.out HL2.out HTE.out (HRN.out _ HSTEP.out) (l' := l ++ [r]) (by unfold evs; rw [List.map_append]; show evs l ++ [r.e] = _; rw [HEV.out, HRE.out]; rfl) (by have := HLL.out; rw [List.length_append, List.length_singleton]; omega) HPE.out HLO.out HBG.out
  case done =>
    rintro D xs W hD rfl ⟨⟨st, l, h1, h2, h3, h4⟩, lo, bg⟩ hK
    rw [List.length_range] at h1 h3 h4
    rw [List.take_length] at h1
    have hs6 := h4.s6.cell
    have HP := Lib.hid h4
    have HEV := Lib.hid h2
    have HLO := Lib.hid lo
    have HBG := Lib.hid bg
    have HD : Hid (w.heap.size + 9 ≤ D) := by show _ ≤ _; have := HZ0.out; omega
    have HKD := Lib.hid hK
    have HIL : Hid ((linesL s).length ≤ 20000) := by show _ ≤ _; have := lines_le s; have := HS.out; omega
    cases st with
    | none =>
      have HPE : Hid (parseB s = (Cf.zero, [], ((linesL s).length : Int) + 1, 4)) := HPB.out.trans (parse_end h1)
      have HC7 : Hid (∀ w', Turns (fun k => w.heap.size ≤ k ∧ k < w.heap.size + 4) W w' → w'.cell? ⟨w.heap.size + 7, 0, none⟩ = some (.int .i64 ((linesL s).length : Int))) := fun w' ht => ht.cell HP.out.n7.cell (by show ¬ (_ ≤ w.heap.size + 7 ∧ w.heap.size + 7 < _); omega)
      generalize (linesL s).length = NL at *
      have hw1 : IntKind.i64.wrap ((NL : Int) + 1) = (NL : Int) + 1 := by rw [IntKind.wrap_i64]; have := HIL.out; omega
      clear h1 h2 h3 h4 lo bg hD hK
      gi_wp2
      refine wpIn_wide.2 ?_
      refine wp_region_tree (Turns (fun k => w.heap.size ≤ k ∧ k < w.heap.size + 4) W) (.take 0 (.take 1 (.take 2 (.one 3 (.one 4 (.one 5 (.one 6 .nil))))))) (by kernel_rfl) (by kernel_rfl) (Turns.of_below (below_drew1 _ _)) ?_
      have ht0 : Turns (fun k => w.heap.size ≤ k ∧ k < w.heap.size + 4) W W.drew := Turns.of_below (below_drew1 _ _)
      repeat (first
        | (refine tree_build rfl (by rfl) 46 _ rfl [] rfl (cfA Cf.zero) (by kernel_rfl) ?_; try simp only [Act.put, List.setIfInBounds_toArray, List.set_cons_zero, List.set_cons_succ])
        | (apply tree_take; (· rfl); (· rfl); (· (intro w' hb'; go_simp; try with_reducible rfl)); try simp only [Act.put, List.setIfInBounds_toArray, List.set_cons_zero, List.set_cons_succ])
        | (apply tree_take; (· rfl); (· rfl); (· (intro w' hb'; have hk' := (HC7.out) w' hb'; go_simp; try with_reducible rfl)); try simp only [Act.put, List.setIfInBounds_toArray, List.set_cons_zero, List.set_cons_succ]))
      have HT0 := Lib.hid ht0
      have HPD := Lib.hid (HP.out.below (below_drew1 _ W))
      have HKW : Hid (W.drew.heap[D]? = some (.deferred (some []))) := Below.keepOld (below_drew1 _ _) HKD.out
      have HLW : Hid (Below w.heap.size w W.drew) := HLO.out.drew
      clear ht0 HC7 hs6 HP HKD HLO
      generalize W.drew = Z at *
      -- four stores into the results, in a tree, from the world Z: HPD (PS), HT0, HKW, HLW
      obtain ⟨X1, X2, X3, X4, e1, e2, e3, e4, x1, x2, x3, xf, xt⟩ := px_store (_m := (NL : Int) + 1) HPD.out.r0 HPD.out.r1 HPD.out.r2 HPD.out.r3 (cfA Cf.zero) (.slice none 0 0) (.int .i64 ((NL : Int) + 1)) (.int .i64 4)
      subst e1 e2 e3 e4
      have HXF := Lib.hid xf
      have y1 := x1.cell
      have z1 := x1.frozen
      have y2 := x2.cell
      have z2 := x2.frozen
      have y3 := x3.cell
      have z3 := x3.frozen
      have HXT := Lib.hid xt
      have HRW := Lib.hid HPD.out.r0
      clear x1 x2 x3 xf xt
      have s1 := HT0.out.trans (turns_wide (turns_setRow Z w.heap.size (cfA Cf.zero)) (T := fun k => w.heap.size ≤ k ∧ k < w.heap.size + 4) (fun k hk => by omega)) (fun _ _ h => h)
      have s2 := s1.setCell (p := ⟨w.heap.size + 1, 0, none⟩) (fun _ => by show _ ≤ w.heap.size + 1 ∧ w.heap.size + 1 < _; omega) (.slice none 0 0)
      have s3 := s2.setCell (p := ⟨w.heap.size + 2, 0, none⟩) (fun _ => by show _ ≤ w.heap.size + 2 ∧ w.heap.size + 2 < _; omega) (.int .i64 ((NL : Int) + 1))
      have s4 := s3.setCell (p := ⟨w.heap.size + 3, 0, none⟩) (fun _ => by show _ ≤ w.heap.size + 3 ∧ w.heap.size + 3 < _; omega) (.int .i64 4)
      refine tree_one rfl (by rfl) (fun K hK => oper_of_list rfl ?_)
      refine wpList_store_row rfl 46 _ _ rfl w.heap.size (cfA Cf.zero) rfl rfl 46 (cfA Cf.zero) HRW.out (infoCf _ rfl) rfl (cfA_one _) ?_
      refine only_end (Shut.out hK _ _ s1 ?_)
      clear hK K s1
      try simp only [Act.put]
      refine tree_one rfl (by rfl) (fun K hK => ?_)
      go_simp
      refine Shut.out hK _ _ s2 ?_
      clear hK K s2
      try simp only [Act.put, List.setIfInBounds_toArray, List.set_cons_zero, List.set_cons_succ]
      refine tree_one rfl (by rfl) (fun K hK => ?_)
      go_simp
      refine Shut.out hK _ _ s3 ?_
      clear hK K s3
      try simp only [Act.put, List.setIfInBounds_toArray, List.set_cons_zero, List.set_cons_succ]
      refine tree_one rfl (by rfl) (fun K hK => ?_)
      go_simp
      refine Shut.out hK _ _ s4 ?_
      clear hK K s4
      try simp only [Act.put, List.setIfInBounds_toArray, List.set_cons_zero, List.set_cons_succ]
      refine tree_nil ?_
      have HKF : Hid ((((Z.setRow w.heap.size (cfA Cf.zero)).setCell ⟨w.heap.size + 1, 0, none⟩ (.slice none 0 0)).setCell ⟨w.heap.size + 2, 0, none⟩ (.int .i64 ((NL : Int) + 1))).setCell ⟨w.heap.size + 3, 0, none⟩ (.int .i64 4) |>.heap[D]? = some (.deferred (some []))) := HXT.out.keep HKW.out (by have := HD.out; omega)
      have HLF : Hid (Below w.heap.size w ((((Z.setRow w.heap.size (cfA Cf.zero)).setCell ⟨w.heap.size + 1, 0, none⟩ (.slice none 0 0)).setCell ⟨w.heap.size + 2, 0, none⟩ (.int .i64 ((NL : Int) + 1))).setCell ⟨w.heap.size + 3, 0, none⟩ (.int .i64 4))) := HLW.out.trans (HXT.out.below HLW.out.size (fun k hk => hk.1))
      clear HRW y1 y2 y3 z1 z2 z3
      generalize ((((Z.setRow w.heap.size (cfA Cf.zero)).setCell ⟨w.heap.size + 1, 0, none⟩ (.slice none 0 0)).setCell ⟨w.heap.size + 2, 0, none⟩ (.int .i64 ((NL : Int) + 1))).setCell ⟨w.heap.size + 3, 0, none⟩ (.int .i64 4)) = ZF at *
      gi_wp2
      refine ⟨by simp, .inl ⟨_, _, rfl, run_takeDeferred (w := ZF) HKF.out, ?_⟩⟩
      exact parse_fin (l := []) HKF.out HD.out HXF.out HPE.out (L5.nil _ _) HLF.out rfl rfl rfl rfl
    | some cl =>
      obtain ⟨c0, l0⟩ := cl
      have hev : evs l = l0 := h2
      have HPE : Hid (parseB s = (c0, evs l, 0, 0)) := by
        show _ = _
        rw [hev]
        exact HPB.out.trans (parse_end h1)
      obtain ⟨p, cap, l1, l2, l3⟩ := h4.l5
      have HL5 : Hid (L5 (w.heap.size + 9) l p cap W) := ⟨l2, l3⟩
      have HRC : Hid (∀ w', Turns (fun k => w.heap.size ≤ k ∧ k < w.heap.size + 4) W w' → w'.rangeAt (w.heap.size + 4) 0 (cfA c0).toList) := fun w' ht => row_rangeS (ht.keep HP.out.c4 (by omega))
      have HC5 : Hid (∀ w', Turns (fun k => w.heap.size ≤ k ∧ k < w.heap.size + 4) W w' → w'.cell? ⟨w.heap.size + 5, 0, none⟩ = some (.slice p l.length cap)) := fun w' ht => ht.cell l1.cell (by show ¬ (_ ≤ w.heap.size + 5 ∧ w.heap.size + 5 < _); omega)
      clear h1 h2 h3 h4 lo bg hD hK hev l1 l2 l3
      generalize (linesL s).length = NL at *
      gi_wp2
      refine wpIn_wide.2 ?_
      refine wp_region_tree (Turns (fun k => w.heap.size ≤ k ∧ k < w.heap.size + 4) W) (.take 0 (.take 1 (.one 2 (.one 3 (.one 4 (.one 5 .nil)))))) (by kernel_rfl) (by kernel_rfl) (Turns.of_below (below_drew1 _ _)) ?_
      have ht0 : Turns (fun k => w.heap.size ≤ k ∧ k < w.heap.size + 4) W W.drew := Turns.of_below (below_drew1 _ _)
      repeat (first
        | (refine tree_load rfl (by rfl) 46 _ rfl (w.heap.size + 4) 0 rfl (cfA c0) _ (fun w' hb => HRC.out w' hb) Tryd.underlying46 rfl (infoCf _ rfl) ?_; try simp only [Act.put, List.setIfInBounds_toArray, List.set_cons_zero, List.set_cons_succ])
        | (apply tree_take; (· rfl); (· rfl); (· (intro w' hb'; have hk' := (HC5.out) w' hb'; go_simp; try with_reducible rfl)); try simp only [Act.put, List.setIfInBounds_toArray, List.set_cons_zero, List.set_cons_succ]))
      have HT0 := Lib.hid ht0
      have HPD := Lib.hid (HP.out.below (below_drew1 _ W))
      have HKW : Hid (W.drew.heap[D]? = some (.deferred (some []))) := Below.keepOld (below_drew1 _ _) HKD.out
      have HLW : Hid (Below w.heap.size w W.drew) := HLO.out.drew
      have HLZ : Hid (L5 (w.heap.size + 9) l p cap W.drew) := HL5.out.turns ht0 (fun k hk => .inl (by omega))
      clear ht0 HC5 HRC hs6 HP HKD HLO HL5
      generalize W.drew = Z at *
      have HLZ2 := Lib.hid (fun (ZF : World) (ht : Turns (fun k => w.heap.size ≤ k ∧ k < w.heap.size + 4) Z ZF) => HLZ.out.turns ht (fun k hk => .inl (by omega)))
      -- four stores into the results, in a tree, from the world Z: HPD (PS), HT0, HKW, HLW
      obtain ⟨X1, X2, X3, X4, e1, e2, e3, e4, x1, x2, x3, xf, xt⟩ := px_store (_m := 0) HPD.out.r0 HPD.out.r1 HPD.out.r2 HPD.out.r3 (cfA c0) (.slice p l.length cap) (.int .i64 (0)) (.int .i64 0)
      subst e1 e2 e3 e4
      have HXF := Lib.hid xf
      have y1 := x1.cell
      have z1 := x1.frozen
      have y2 := x2.cell
      have z2 := x2.frozen
      have y3 := x3.cell
      have z3 := x3.frozen
      have HXT := Lib.hid xt
      have HRW := Lib.hid HPD.out.r0
      clear x1 x2 x3 xf xt
      have s1 := HT0.out.trans (turns_wide (turns_setRow Z w.heap.size (cfA c0)) (T := fun k => w.heap.size ≤ k ∧ k < w.heap.size + 4) (fun k hk => by omega)) (fun _ _ h => h)
      have s2 := s1.setCell (p := ⟨w.heap.size + 1, 0, none⟩) (fun _ => by show _ ≤ w.heap.size + 1 ∧ w.heap.size + 1 < _; omega) (.slice p l.length cap)
      have s3 := s2.setCell (p := ⟨w.heap.size + 2, 0, none⟩) (fun _ => by show _ ≤ w.heap.size + 2 ∧ w.heap.size + 2 < _; omega) (.int .i64 (0))
      have s4 := s3.setCell (p := ⟨w.heap.size + 3, 0, none⟩) (fun _ => by show _ ≤ w.heap.size + 3 ∧ w.heap.size + 3 < _; omega) (.int .i64 0)
      refine tree_one rfl (by rfl) (fun K hK => oper_of_list rfl ?_)
      refine wpList_store_row rfl 46 _ _ rfl w.heap.size (cfA c0) rfl rfl 46 (cfA Cf.zero) HRW.out (infoCf _ rfl) rfl (cfA_one _) ?_
      refine only_end (Shut.out hK _ _ s1 ?_)
      clear hK K s1
      try simp only [Act.put]
      refine tree_one rfl (by rfl) (fun K hK => ?_)
      go_simp
      refine Shut.out hK _ _ s2 ?_
      clear hK K s2
      try simp only [Act.put, List.setIfInBounds_toArray, List.set_cons_zero, List.set_cons_succ]
      refine tree_one rfl (by rfl) (fun K hK => ?_)
      go_simp
      refine Shut.out hK _ _ s3 ?_
      clear hK K s3
      try simp only [Act.put, List.setIfInBounds_toArray, List.set_cons_zero, List.set_cons_succ]
      refine tree_one rfl (by rfl) (fun K hK => ?_)
      go_simp
      refine Shut.out hK _ _ s4 ?_
      clear hK K s4
      try simp only [Act.put, List.setIfInBounds_toArray, List.set_cons_zero, List.set_cons_succ]
      refine tree_nil ?_
      have HKF : Hid ((((Z.setRow w.heap.size (cfA c0)).setCell ⟨w.heap.size + 1, 0, none⟩ (.slice p l.length cap)).setCell ⟨w.heap.size + 2, 0, none⟩ (.int .i64 (0))).setCell ⟨w.heap.size + 3, 0, none⟩ (.int .i64 0) |>.heap[D]? = some (.deferred (some []))) := HXT.out.keep HKW.out (by have := HD.out; omega)
      have HLF : Hid (Below w.heap.size w ((((Z.setRow w.heap.size (cfA c0)).setCell ⟨w.heap.size + 1, 0, none⟩ (.slice p l.length cap)).setCell ⟨w.heap.size + 2, 0, none⟩ (.int .i64 (0))).setCell ⟨w.heap.size + 3, 0, none⟩ (.int .i64 0))) := HLW.out.trans (HXT.out.below HLW.out.size (fun k hk => hk.1))
      clear HRW y1 y2 y3 z1 z2 z3
      generalize ((((Z.setRow w.heap.size (cfA c0)).setCell ⟨w.heap.size + 1, 0, none⟩ (.slice p l.length cap)).setCell ⟨w.heap.size + 2, 0, none⟩ (.int .i64 (0))).setCell ⟨w.heap.size + 3, 0, none⟩ (.int .i64 0)) = ZF at *
      gi_wp2
      refine ⟨by simp, .inl ⟨_, _, rfl, run_takeDeferred (w := ZF) HKF.out, ?_⟩⟩
      exact parse_fin (l := l) HKF.out HD.out HXF.out HPE.out (HLZ2.out _ HXT.out) HLF.out rfl rfl rfl rfl
  case stop =>
    rintro D c pre W hD - ⟨m, ⟨rfl, hpb⟩, hx⟩ hK
    have HPX := Lib.hid hx
    gi_wp2
    refine ⟨by simp, .inl ⟨_, _, rfl, run_takeDeferred (w := W) hK, ?_⟩⟩
    exact parse_fin (l := []) hK (by have := HZ0.out; omega) ⟨HPX.out.r0, HPX.out.r1, HPX.out.r2, HPX.out.r3⟩ hpb (L5.nil _ _) HPX.out.low rfl rfl rfl rfl
end Go.Proofs.YtcddgbobbogpgaaDoor.Scr

namespace Go.Proofs.YtcddgbobbogpgaaDoor.Scr
open Go.RowKit Go.Mir Go.Mir.Hx Go.Mir.Parts HexW Rpl

/-- one letter of a string -/
theorem cutStr (s : List UInt8) (i : Nat) (x : UInt8) (hx : s[i]? = some x) (hi : (i : Int) + 1 ≤ 9223372036854775807) : ∀ w0, (Instr.sliceAt 9 (.string (S s)) (some (.int .i64 (i : Int))) (some (.int .i64 ((i : Int) + 1))) none).run Tryd.prog w0 = .ok (.string (S [x])) w0 := by
  intro w0
  have hil : i < s.length := (List.getElem?_eq_some_iff.1 hx).1
  have hb1 : (0 : Int) ≤ (i : Int) + 1 ∧ (i : Int) + 1 ≤ (s.length : Int) := by omega
  have hb3 : i ≤ ((i : Int) + 1).toNat := by omega
  have he : ((i : Int) + 1).toNat = i + 1 := by omega
  have hx' : (S s).extract i (i + 1) = S [x] := by
    obtain ⟨_, rfl⟩ := List.getElem?_eq_some_iff.1 hx
    apply ByteArray.ext
    rw [ByteArray.data_extract]
    apply Array.toList_inj.1
    rw [Array.toList_extract]
    simp [S_data]
    rw [List.drop_eq_getElem_cons hil]; rfl
  simp [Instr.sliceAt, Instr.slice, run_underlying Tryd.underlying9, Instr.sliceBounds, Instr.sliceBound, asIntOf, S_size, hb1, he, hx']
theorem sp_take_len (s : List UInt8) (i : Nat) (h : i < s.length) : sp (s.take (i + 1)) = if s[i] = 32 then sp (s.take i) ++ [[]] else app1 (sp (s.take i)) s[i] := by
  rw [List.take_succ_eq_append_getElem h]
  exact sp_snoc _ _
/-- words of the call's own -/
structure RS (w : World) (ws : List (List UInt8)) (p : Option Addr) (m c : Nat) (X : World) : Prop where
  own : X.ownsRow w.heap.size 9 1 (.slice p m c) m (strV ws)
  len : m = ws.length
  low : Below w.heap.size w X
theorem RS.next {w X Y : World} {ws : List (List UInt8)} {p : Option Addr} {m c : Nat} (h : RS w ws p m c X) (hb : Below X.heap.size X Y) : RS w ws p m c Y :=
  ⟨own_touch h.own (Turns.of_below (S := fun _ => False) hb) (fun _ _ h => h), h.len, h.low.trans (hb.mono h.low.size)⟩
theorem own_one' (w : World) (base : Nat) (s : List UInt8) (hb : base ≤ w.heap.size) : (w.alloc (.cells #[.string (S s)] 9)).ownsRow base 9 1 (.slice (some ⟨w.heap.size, 0, none⟩) 1 1) 1 (strV [s]) :=
  ⟨rfl, .inr ⟨w.heap.size, 1, _, rfl, hb, heap_alloc_last _ _, Nat.le_refl _, by simp [maxLen], rfl, rfl⟩⟩
theorem own_set {w : World} {base t g n c : Nat} {xs : List Value} (h : w.ownsRow base t 1 (.slice (some ⟨g, 0, none⟩) n c) n xs) (j : Nat) (y : Value) : (w.setCell ⟨g, j, none⟩ y).ownsRow base t 1 (.slice (some ⟨g, 0, none⟩) n c) n (xs.set j y) := by
  rcases h.2 with ⟨he, _⟩ | ⟨g', cap, cur, he, hb, hg, hn, hm, hs, ht⟩
  · cases he
  · cases he
    refine ⟨by rw [List.length_set]; exact h.1, .inr ⟨g, c, cur.setIfInBounds j y, rfl, hb, heap_setCell_same _ _ _ _ _ _ hg, hn, hm, by simp [hs], ?_⟩⟩
    rw [Array.toList_setIfInBounds, List.take_set, ht]
theorem own_frozen {w : World} {base t g n c : Nat} {xs : List Value} (h : w.ownsRow base t 1 (.slice (some ⟨g, 0, none⟩) n c) n xs) (j : Nat) : w.frozen? ⟨g, j, none⟩ = false := by
  rcases h.2 with ⟨he, _⟩ | ⟨g', cap, cur, he, hb, hg, hn, hm, hs, ht⟩
  · cases he
  · cases he
    exact frozen_of_row _ _ j _ _ hg
theorem strV_set (ws : List (List UInt8)) (j : Nat) (x : List UInt8) : strV (ws.set j x) = (strV ws).set j (.string (S x)) := by simp [strV, List.map_set]
set_option maxRecDepth 100000 in
set_option maxHeartbeats 3200000 in
theorem rsplit_any (s : List UInt8) (w : World) (hs : s.length < 4294967281) :
    Calls Tryd.prog 35 #[.string (S s)] w fun e w' => ∃ p c, e = .returned (.slice p (sp s).length c) ∧ Ws w' p (sp s).length c (sp s) ∧ Below w.heap.size w w' := by
  have hb1 := Below.allocs w (.cells #[.string ⟨#[]⟩] 9)
  have HRS0 : Hid (RS w (sp (s.take 0)) (some ⟨w.heap.size, 0, none⟩) 1 1 (w.alloc (.cells #[.string ⟨#[]⟩] 9))) :=
    ⟨own_one' w w.heap.size [] (Nat.le_refl _), rfl, hb1⟩
  clear hb1
  go_enter Tryd.func35, Tryd.ntmps35
  go_wp2_with fail
  generalize w.alloc (.cells #[.string ⟨#[]⟩] 9) = w2 at *
  go_loopw [3, 4] (fun v j wr => ∃ (i m : Nat) (p : Option Addr) (c : Nat), i ≤ s.length ∧ j = .int .i64 i ∧ v = .slice p m c ∧ RS w (sp (s.take i)) p m c wr) (fun _ j _ => s.length - (intOf j).toNat)
  case atStart => exact ⟨0, 1, _, 1, Nat.zero_le _, rfl, rfl, HRS0.out⟩
  case round =>
    clear HRS0
    obtain ⟨i, m, p, c, hi, rfl, rfl, hrs⟩ := hrel
    have HRS := Lib.hid hrs
    clear hrs
    by_cases hlt : i < s.length
    · have hdi : decide ((i : Int) < (s.length : Int)) = true := decide_eq_true (by omega)
      have hdi2 : decide (i < s.length) = true := decide_eq_true hlt
      have HSN := Lib.hid (sp_take_len s i hlt)
      have hgx : s[i]? = some s[i] := List.getElem?_eq_getElem hlt
      have hlen : (sp (s.take i)).length ≤ s.length + 1 := by
        have h1 : ∀ l : List UInt8, (sp l).length ≤ l.length + 1 := by
          intro l
          induction l with
          | nil => exact Nat.le_refl _
          | cons c r ih =>
            by_cases hc : c = 32
            · subst hc; rw [sp_blank, List.length_cons, List.length_cons]; omega
            · obtain ⟨h, t, e⟩ := sp_form r
              rw [sp_sign hc e]
              rw [e] at ih
              simp only [List.length_cons] at ih ⊢
              omega
        have := h1 (s.take i)
        rw [List.length_take] at this
        omega
      have hpos : 1 ≤ m := by rw [HRS.out.len]; exact sp_pos _
      have hm1 : m ≤ s.length + 1 := by rw [HRS.out.len]; exact hlen
      clear hlen
      generalize hws : sp (s.take i) = ws at *
      have hsl := cutStr s i s[i] hgx (by omega)
      have hu : ∀ x : UInt8, ((x.toNat : Int) == 32) = decide (x = 32) := by intro x; rw [Bool.eq_iff_iff, beq_iff_eq, decide_eq_true_eq, ← UInt8.toNat_inj]; show (x.toNat : Int) = 32 ↔ x.toNat = 32; omega
      by_cases hx : s[i] = 32
      · have hb : ((s[i].toNat : Int) == 32) = true := by rw [hu]; exact decide_eq_true hx
        rw [if_pos hx] at HSN
        have hB7 := Below.allocs wr (.cells #[.string ⟨#[]⟩] 9)
        have HRS1 := Lib.hid (HRS.out.next hB7)
        have HX7 : Hid (Ws (wr.alloc (.cells #[.string ⟨#[]⟩] 9)) (some ⟨wr.heap.size, 0, none⟩) 1 1 [[]]) := Ws.row (ls := [[]]) (heap_alloc_last wr _) rfl (by show 1 ≤ _; omega)
        have HLN := Lib.hid HRS.out.len
        clear hB7 hsl hws hx hu
        go_wp2_with (at_builtin; refine wpList_append_nx rfl _ _ 65 rfl (base := w.heap.size) Tryd.underlying65 infoStr rfl (by omega) rfl HRS1.out.own rfl HX7.out (strV_one _) ⟨by omega, by omega⟩ HRS1.out.low.size ?_)
        intro p' c' w8 ho8 hgr hnx _
        have hb8 := own_below HRS1.out.own hgr HRS1.out.low.size
        have HRS8 : Hid (RS w (sp (s.take (i + 1))) p' (m + 1) c' w8) := by
          refine ⟨?_, ?_, HRS1.out.low.trans hb8⟩
          · rw [HSN.out]
            unfold strV at ho8 ⊢
            rw [List.map_append]
            exact ho8
          · rw [HSN.out, List.length_append, ← HLN.out]; rfl
        clear ho8 hgr hnx hb8 HX7 HRS HRS1
        go_wp2_with fail
        go_roundw
        case rel => exact ⟨i + 1, m + 1, p', c', by omega, by go_num, rfl, HRS8.out⟩
        case measure => simp [intOf]; omega
      · have hb : ((s[i].toNat : Int) == 32) = false := by rw [hu]; exact decide_eq_false hx
        rw [if_neg hx] at HSN
        have HLN := Lib.hid HRS.out.len
        obtain ⟨g, cap, hv, hbg, _⟩ := own_some HRS.out.own (fun e => by cases e; omega)
        obtain ⟨rfl, rfl⟩ : p = some ⟨g, 0, none⟩ ∧ c = cap := by cases hv; exact ⟨rfl, rfl⟩
        obtain ⟨k, hk⟩ : ∃ k, m - 1 = k := ⟨_, rfl⟩
        have hj : k < ws.length := by rw [← HLN.out]; omega
        have hcl := Ws.str (own_ws HRS.out.own) hj
        have hAP : app1 ws s[i] = ws.set k (ws[k] ++ [s[i]]) := by unfold app1; rw [← HLN.out, hk, List.getElem?_eq_getElem hj]; rfl
        rw [hAP] at HSN
        have hyl : ¬ (9223372036854775807 < ws[k].length + 1) := by have h1 := sp_len (s.take i) ws[k] (by rw [hws]; exact List.getElem_mem hj); rw [List.length_take] at h1; omega
        generalize ws[k] = y at *
        rw [Nat.zero_add] at hcl
        have hcd : wr.drew.cell? ⟨g, k, none⟩ = some (.string (S y)) := cell_below hcl (below_drew1 _ _)
        have hfz : wr.drew.frozen? ⟨g, k, none⟩ = false := own_frozen (own_touch HRS.out.own (Turns.of_below (S := fun _ => False) (below_drew1 wr.heap.size wr)) (fun _ _ h => h)) _
        have hm0 : (m : Int) - 1 = (k : Int) := by omega
        have hk2 : k < m := by omega
        have hk3 : (k : Int) < (m : Int) := by omega
        have hwr : IntKind.i64.wrap (k : Int) = (k : Int) := by rw [IntKind.wrap_i64]; omega
        have hwi : IntKind.i64.wrap ((i : Int) + 1) = (i : Int) + 1 := by rw [IntKind.wrap_i64]; omega
        clear hx hu hws hAP hv hcl hj hk
        go_upto_region 7 with fail
        refine wp_region_tree (fun _ => True) (.take 0 (.take 1 (.take 2 (.take 3 (.take 4 (.take 5 (.take 6 (.take 7 (.take 8 (.take 10 (.take 11 (.take 12 (.take 13 (.take 14 (.one 9 (.take 15 (.take 16 (.one 17 .nil)))))))))))))))))) (by kernel_rfl) (by kernel_rfl) trivial ?_
        repeat (apply tree_take; (· rfl); (· rfl); (· (intro w' hb'; go_simp; try with_reducible rfl)); try simp only [Act.put, List.setIfInBounds_toArray, List.set_cons_zero, List.set_cons_succ])
        refine tree_one rfl (by rfl) (fun K hK => ?_)
        go_simp
        refine Shut.out hK _ _ trivial ?_
        clear hK K
        try simp only [Act.put, List.setIfInBounds_toArray, List.set_cons_zero, List.set_cons_succ]
        repeat (apply tree_take; (· rfl); (· rfl); (· (intro w' hb'; go_simp; try with_reducible rfl)); try simp only [Act.put, List.setIfInBounds_toArray, List.set_cons_zero, List.set_cons_succ])
        refine tree_one rfl (by rfl) (fun K hK => ?_)
        go_simp
        refine Shut.out hK _ _ trivial ?_
        clear hK K
        try simp only [Act.put, List.setIfInBounds_toArray, List.set_cons_zero, List.set_cons_succ]
        refine tree_nil ?_
        have HRD := Lib.hid (HRS.out.next (below_drew1 wr.heap.size wr))
        have HT := Lib.hid ((Turns.refl (fun q => q = g) wr.drew).setCell (p := ⟨g, k, none⟩) (fun _ => rfl) (.string (S (y ++ [s[i]]))))
        have HRS8 : Hid (RS w (sp (s.take (i + 1))) (some ⟨g, 0, none⟩) m c (wr.drew.setCell ⟨g, k, none⟩ (.string (S (y ++ [s[i]]))))) := by
          refine ⟨?_, ?_, HRD.out.low.trans (HT.out.below HRD.out.low.size (fun q hq => by have hq : q = g := hq; omega))⟩
          · rw [HSN.out, strV_set]
            exact own_set HRD.out.own k _
          · rw [HSN.out, List.length_set]; exact HLN.out
        clear HRS HRD HT
        go_wp2_with fail
        go_roundw
        case rel => exact ⟨i + 1, m, some ⟨g, 0, none⟩, c, by omega, by go_num, rfl, HRS8.out⟩
        case measure => simp [intOf]; omega
    · obtain rfl : i = s.length := by omega
      have hdi : decide ((s.length : Int) < (s.length : Int)) = false := decide_eq_false (by omega)
      have hdi2 : decide (s.length < s.length) = false := decide_eq_false (by omega)
      rw [List.take_length] at HRS
      have hml : m = (sp s).length := HRS.out.len
      subst hml
      have HWX := Lib.hid (own_ws HRS.out.own)
      have HLX := Lib.hid HRS.out.low
      clear hlt hi
      go_wp2_with fail
      go_ret
      exact ⟨p, c, rfl, HWX.out, HLX.out⟩
end Go.Proofs.YtcddgbobbogpgaaDoor.Scr

namespace Go.Proofs.YtcddgbobbogpgaaDoor.Scr
open Go.RowKit Go.Mir Go.Mir.Hx Go.Mir.Parts HexW Rpl

theorem EW.next {w0 x y : World} {g : Nat} {t : TypeId} {e : Ev} {pb : Option Addr} {cb : Nat} {q : Option Addr} {c : Nat} (h : EW w0 g t e pb cb q c x) (hb : Below x.heap.size x y) : EW w0 g t e pb cb q c y :=
  ⟨Below.keepOld hb h.row, h.wf, h.turn.trans (Turns.of_below hb) (fun _ _ h => h)⟩
theorem readK_2 (r : List (List UInt8)) : readK 2 r = (idsB r).bind fun l => if 2 ≤ l.length then some ⟨2, [], l.getD 0 [], l.getD 1 [], l.drop 2, zeros, 0, 0, 0, 0⟩ else none := by
  unfold readK
  rw [if_neg (by omega), if_pos rfl]
theorem readK_3 (k : Nat) (hk : k = 3 ∨ k = 4) (r : List (List UInt8)) : readK k r = (idsB r).bind fun l => if l.length = 1 then some ⟨(k : Int), [], zeros, zeros, [], l.getD 0 [], 0, 0, 0, 0⟩ else none := by
  unfold readK
  rw [if_neg (by omega), if_neg (by omega), if_pos hk]
theorem ap_none (n : Nat) : (∀ a, (none : Option Addr) = some a → n < a.block) ∧ (∀ a, (none : Option Addr) = some a → n < a.block) := ⟨fun _ h => (nomatch h), fun _ h => (nomatch h)⟩
set_option maxRecDepth 100000 in
set_option maxHeartbeats 6400000 in
theorem rreadQ_any (s : List UInt8) (w : World) (hs : s.length ≤ 900000) : Calls Tryd.prog 12 #[.string (S s)] w (ReadQ (readE s) w) := by
  have hz := zeroF
  have a1 := heap_alloc_last w (.cells zE 37)
  have a4 := Below.allocs w (.cells zE 37)
  have HR1 := Lib.hid a1
  have HB := Lib.hid a4
  have HBU : Hid (Tryd.prog.built 37 [] = some zE) := built_f0
  have HZO : Hid (zE.all (·.oneCell') = true) := evA_one _ _ _ _ _
  have HZS : Hid (zE.size = 103) := zE_size
  have HSP := Lib.hid (rsplit_any s (w.alloc (.cells zE 37)) (by omega))
  obtain ⟨s0, r, hsp⟩ := sp_form s
  obtain ⟨k, hkk⟩ : ∃ k, kindB s0 = k := ⟨_, rfl⟩
  have HRE : Hid (readE s = readK k r) := by
    show _ = _
    unfold readE
    rw [hsp, ← hkk]; rfl
  have hln := sp_length s
  have HWL := Lib.hid (sp_len s)
  rw [hsp] at hln HSP HWL
  rw [List.length_cons] at hln
  have HLN : Hid (r.length ≤ 1000000) := by show _ ≤ _; omega
  have HSL : Hid (s.length ≤ 900000) := hs
  have hsz2 : w.heap.size + 1 ≤ (w.alloc (.cells zE 37)).heap.size := (Array.getElem?_eq_some_iff.1 a1).1
  clear a1 a4 hs hsp hln
  go_enter Tryd.func12, Tryd.ntmps12
  go_upto_region 1 with fail
  generalize w.alloc (.cells zE 37) = w2 at *
  go_wp2_with fail
  refine HSP.out.mono ?_
  rintro x w3 ⟨p, c, rfl, hws, hb3⟩
  have HR3 := Lib.hid (Below.keepOld hb3 HR1.out)
  have HB3 := Lib.hid (HB.out.trans (hb3.mono HB.out.size))
  have HWS := Lib.hid hws
  have hcc := hws.le
  have hcm := hws.max
  obtain ⟨b, o, rfl⟩ := hws.addr (by simp) (by simp at hcc; omega)
  have hc0 : w3.cell? ⟨b, o, none⟩ = some (.string (S s0)) := Ws.str (ls := s0 :: r) hws (j := 0) (by simp)
  have hsz3 : w.heap.size + 1 ≤ w3.heap.size := Nat.le_trans hsz2 hb3.size
  obtain ⟨NL, hNL⟩ : ∃ NL, (s0 :: r).length = NL := ⟨_, rfl⟩
  have HNL := Lib.hid hNL
  rw [hNL] at HWS hcc ⊢
  have h1n : 1 ≤ NL := by rw [← hNL]; simp
  have h0i : (0 : Int) < (NL : Int) := by omega
  have h1i : (1 : Int) ≤ (NL : Int) := by omega
  have h0n : 0 < NL := by omega
  have hRK := rkind_any s0 w3
  rw [hkk] at hRK
  have HRK := Lib.hid hRK
  have hcut := cutSR HWS.out 1 1 rfl h1n
  have HDR := Lib.hid (ws_drop HWS.out 1 h1n)
  clear hws hb3 HSP HB HR1 hNL hRK
  go_wp2_with fail
  refine HRK.out.mono ?_
  rintro x w4 ⟨rfl, hb4⟩
  have HR4 := Lib.hid (Below.keepOld hb4 HR3.out)
  have HB4 := Lib.hid (HB3.out.trans (hb4.mono HB3.out.size))
  have HDR4 := Lib.hid (HDR.out.below hb4)
  have hsz4 : w.heap.size + 1 ≤ w4.heap.size := Nat.le_trans hsz3 hb4.size
  have HFK := Lib.hid (built_fk (k : Int))
  have HKI : Hid (i64B (k : Int)) := by
    have : k ≤ 6 := by
      by_cases h0 : k = 0
      · omega
      · exact (kind_name hkk h0).2
    exact small_i64 (by omega)
  have HAS : Hid ((evA (Ev.zero (k : Int)) none 0 none 0).size = 103) := evA_size (zero_wf HKI.out) _ _ _ _
  have HAO : Hid ((evA (Ev.zero (k : Int)) none 0 none 0).all (·.oneCell') = true) := evA_one _ _ _ _ _
  clear hb4 hc0 HWS HRK HDR HB3 HR3
  generalize hAA : evA (Ev.zero (k : Int)) none 0 none 0 = A at HFK HAS HAO
  go_upto_region 3 with (first
    | refine Rdr.wpList_build rfl 37 _ rfl [(0, .int .i64 (k : Int))] rfl _ HFK.out ?_
    | refine wpList_store_row rfl 37 _ _ rfl w4.heap.size A rfl rfl 37 zE (heap_alloc_last _ _) (infoF _ HAS.out) (by rw [HAS.out]; exact HZS.out) HAO.out ?_)
  have hEB := setRow_heap _ _ _ A _ _ (heap_alloc_last w4 (.cells zE 37))
  have hbE := box_below w4 zE A 37
  have HR5 := Lib.hid (Below.keepOld hbE HR4.out)
  have HB5 := Lib.hid (HB4.out.trans (hbE.mono HB4.out.size))
  have hdr5 := HDR4.out.below hbE
  have HE5 : Hid (w4.heap.size < ((w4.alloc (.cells zE 37)).setRow w4.heap.size A).heap.size) := (Array.getElem?_eq_some_iff.1 hEB).1
  obtain ⟨q, hq⟩ : ∃ q, cutS (some ⟨b, o, none⟩) c 1 = q := ⟨_, rfl⟩
  obtain ⟨n, hn⟩ : ∃ n, NL - 1 = n := ⟨_, rfl⟩
  obtain ⟨cq, hc⟩ : ∃ cq, c - 1 = cq := ⟨_, rfl⟩
  rw [hq, hn, hc] at hdr5 hcut
  have hnr : n = r.length := by rw [← hn, ← HNL.out]; simp
  subst hnr
  have HW5 := Lib.hid hdr5
  clear hbE hdr5 hq hn hc HDR4 HR4 HB4 HFK
  generalize (w4.alloc (.cells zE 37)).setRow w4.heap.size A = w5 at *
  generalize w4.heap.size = E at *
  have HEW : Hid (EW w5 E 37 (Ev.zero (k : Int)) none 0 none 0 w5) := ⟨by rw [hAA]; exact hEB, zero_wf HKI.out, Turns.refl _ _⟩
  have HSE : Hid (w.heap.size + 1 ≤ E) := hsz4
  have hk0 := HEW.out.cells.k
  have HKK := Lib.hid hkk
  have hle := HW5.out.le
  have hmx := HW5.out.max
  have HLL : Hid (∀ x ∈ r, x.length ≤ 1099511627776) := fun x hx => by have := HWL.out x (List.mem_cons_of_mem _ hx); have := HSL.out; omega
  have hrl := HLN.out
  clear hEB hAA HAS HAO hsz2 hsz3 hsz4 hcm hcc h0i h1i h0n h1n HNL HWL
  by_cases hk1 : k = 1
  · subst hk1
    skip
    by_cases h1 : r.length = 1
    rotate_left
    · obtain ⟨q1, q2, q3, q4⟩ := (len_facts r 1).2 h1
      have HNO : Hid (readK 1 r = none) := by show _ = _; unfold readK; rw [if_pos rfl, if_neg h1]
      have HRX := HR5
      have HBX := HB5
      clear h1
      skip
      go_wp2_with (first
        | refine Rdr.wpList_build rfl 37 _ rfl [] rfl _ HBU.out ?_
        | refine wpList_store_row rfl 37 _ _ rfl w.heap.size zE rfl rfl 37 zE HRX.out (infoF _ HZS.out) rfl HZO.out ?_)
      have HSR := Lib.hid (setRow_heap _ _ _ zE _ _ HRX.out)
      refine bodyPost_ret (results_ct rfl _ _ _ _ _ _ _ rfl HSR.out Tryd.underlying37 rfl (infoF _ HZS.out)) rfl ?_
      rw [HRE.out, HNO.out]
      exact ⟨none, 0, none, 0, rfl, zero_at _ 0 zero_i64, ⟨no_ap _, no_ap _⟩, below_setRow HBX.out (by omega) _⟩
    obtain ⟨z, rfl⟩ := len1 h1
    have hle : 1 ≤ cq := hle
    obtain ⟨b1, o1, rfl⟩ := HW5.out.addr (by show 0 < 1; omega) (by omega)
    have hcx : w5.cell? ⟨b1, o1, none⟩ = some (.string (S z)) := Ws.str HW5.out (j := 0) (by show 0 < 1; omega)
    have HBY := Lib.hid (rBytes_any z w5 (HLL.out z (by simp)))
    clear h1
    go_wp2_with fail
    refine HBY.out.mono ?_
    rintro x w6 ⟨hb, hcase⟩
    have HR6 := Lib.hid (Below.keepOld hb HR5.out)
    have HB6 := Lib.hid (HB5.out.trans (hb.mono HB5.out.size))
    have HE6 := Lib.hid (HEW.out.next hb)
    have HY6 := Lib.hid (fun i (h : i = E) => (show w.heap.size ≤ i by have := HSE.out; omega))
    have hE1 : w6.cell? ⟨E, 1, none⟩ = some (.slice none 0 0) := HE6.out.cells.b
    have hfz : ∀ j, w6.frozen? ⟨E, j, none⟩ = false := fun j => HE6.out.frozen j
    have hs5 : w.heap.size < w5.heap.size := by have := HSE.out; have := HE5.out; omega
    clear hb hcx HBY
    rcases hcase with ⟨y, p, cc, hy, rfl, hbs, hap⟩ | ⟨hy, rfl⟩
    · have HEX := Lib.hid (HE6.out.bytes y p cc)
      have HTX : Hid (Turns (fun j => j = E) w6 (w6.setCell ⟨E, 1, none⟩ (.slice p y.length cc))) := (Turns.refl (fun j => j = E) w6).setCell (p := ⟨E, 1, none⟩) (fun _ => rfl) _
      have HR7 := Lib.hid (HTX.out.keep HR6.out (by show ¬ _ = E; have := HSE.out; omega))
      have HB7 : Hid (Below w.heap.size w (w6.setCell ⟨E, 1, none⟩ (.slice p y.length cc))) := HB6.out.trans (HTX.out.below HB6.out.size HY6.out)
      have HBSY := Lib.hid (sl_turn hbs HTX.out (fun a ha hg => by have h1 := hap a ha; have h2 := HE5.out; have hg : a.block = E := hg; omega))
      have HYES : Hid (readK 1 [z] = some ⟨1, y, zeros, zeros, [], zeros, 0, 0, 0, 0⟩) := by show _ = _; rw [rk1, hy]; rfl
      have HAP := Lib.hid hap
      clear hbs hap hy
      skip
      -- the row of E told: A1 = evA EV.., HROW, HRX, HBX, HEX (its EW at WX), HYES
      obtain ⟨A1, hA1⟩ : ∃ A1, A1 = evA { Ev.zero ((1 : Nat) : Int) with b := y } p cc none 0 := ⟨_, rfl⟩
      have HAS1 : Hid (A1.size = 103) := by show _ = _; rw [hA1]; exact evA_size HEX.out.wf _ _ _ _
      have HAO1 : Hid (A1.all (·.oneCell') = true) := by show _ = _; rw [hA1]; exact evA_one _ _ _ _ _
      have HROW := Lib.hid HEX.out.row
      rw [← hA1] at HROW
      have HA1 := Lib.hid hA1
      clear hA1
      have hkp := rkeep_any A1 true (w6.setCell ⟨E, 1, none⟩ (.slice p y.length cc)) HAS1.out HAO1.out
      rw [if_pos rfl] at hkp
      have HKP := Lib.hid hkp
      clear hkp
      go_wp2_with (refine wpList_load_row rfl 37 _ rfl E rfl 37 A1 (0, 0) _ HROW.out Tryd.underlying37 rfl (infoF _ HAS1.out) ?_)
      refine HKP.out.mono ?_
      rintro x w8 ⟨rfl, hb8⟩
      have HRX := Lib.hid (Below.keepOld hb8 HR7.out)
      have HBX := Lib.hid (HB7.out.trans (hb8.mono HB7.out.size))
      have HBSX := Lib.hid (HBSY.out.below hb8)
      have HISX : Hid (Is w8 none 0 0 32 []) := Is.nil _ _
      have HAPX : Hid ((∀ a, p = some a → w.heap.size < a.block) ∧ (∀ a, (none : Option Addr) = some a → w.heap.size < a.block)) := ⟨fun a ha => by have := HAP.out a ha; omega, fun _ h => (nomatch h)⟩
      clear hb8 HKP
      go_wp2_with (refine wpList_store_row rfl 37 _ _ rfl w.heap.size A1 rfl rfl 37 zE HRX.out (infoF _ HAS1.out) (by rw [HAS1.out]; exact HZS.out) HAO1.out ?_)
      skip
      have HSR := Lib.hid (setRow_heap _ _ _ A1 _ _ HRX.out)
      have HTS : Hid (Turns (fun j => j = w.heap.size) w8 (World.setRow w8 w.heap.size A1)) := turns_setRow _ _ _
      refine bodyPost_ret (results_ct rfl _ _ _ _ _ _ _ rfl HSR.out Tryd.underlying37 rfl (infoF _ HAS1.out)) rfl ?_
      rw [HRE.out, HYES.out]
      exact ⟨_, _, _, _, by rw [HA1.out]; rfl, ⟨HEX.out.wf, sl_turn HBSX.out HTS.out (fun a ha hg => by have h1 := HAPX.out.1 a ha; have hg : a.block = w.heap.size := hg; omega), is_turn HISX.out HTS.out (fun a ha hg => by have h1 := HAPX.out.2 a ha; have hg : a.block = w.heap.size := hg; omega)⟩, ⟨fun a ha => Nat.le_of_lt (HAPX.out.1 a ha), fun a ha => Nat.le_of_lt (HAPX.out.2 a ha)⟩, below_setRow HBX.out (by omega) _⟩
    · have HEX := Lib.hid (HE6.out.bytes [] none 0)
      have HTX : Hid (Turns (fun j => j = E) w6 (w6.setCell ⟨E, 1, none⟩ (.slice none 0 0))) := (Turns.refl (fun j => j = E) w6).setCell (p := ⟨E, 1, none⟩) (fun _ => rfl) _
      have HR7 := Lib.hid (HTX.out.keep HR6.out (by show ¬ _ = E; have := HSE.out; omega))
      have HB7 : Hid (Below w.heap.size w (w6.setCell ⟨E, 1, none⟩ (.slice none 0 0))) := HB6.out.trans (HTX.out.below HB6.out.size HY6.out)
      have HNO : Hid (readK 1 [z] = none) := by show _ = _; rw [rk1, hy]; rfl
      clear hy
      skip
      -- the row of E told: A1 = evA EV.., HROW, HRX, HBX, HEX (its EW at WX), HYES
      obtain ⟨A1, hA1⟩ : ∃ A1, A1 = evA { Ev.zero ((1 : Nat) : Int) with b := [] } none 0 none 0 := ⟨_, rfl⟩
      have HAS1 : Hid (A1.size = 103) := by show _ = _; rw [hA1]; exact evA_size HEX.out.wf _ _ _ _
      have HAO1 : Hid (A1.all (·.oneCell') = true) := by show _ = _; rw [hA1]; exact evA_one _ _ _ _ _
      have HROW := Lib.hid HEX.out.row
      rw [← hA1] at HROW
      have HA1 := Lib.hid hA1
      clear hA1
      have hkp := rkeep_any A1 false (w6.setCell ⟨E, 1, none⟩ (.slice none 0 0)) HAS1.out HAO1.out
      rw [if_neg (by decide)] at hkp
      have HKP := Lib.hid hkp
      clear hkp
      go_wp2_with (refine wpList_load_row rfl 37 _ rfl E rfl 37 A1 (0, 0) _ HROW.out Tryd.underlying37 rfl (infoF _ HAS1.out) ?_)
      refine HKP.out.mono ?_
      rintro x w8 ⟨rfl, hb8⟩
      have HRX := Lib.hid (Below.keepOld hb8 HR7.out)
      have HBX := Lib.hid (HB7.out.trans (hb8.mono HB7.out.size))
      clear hb8 HKP
      go_wp2_with (refine wpList_store_row rfl 37 _ _ rfl w.heap.size zE rfl rfl 37 zE HRX.out (infoF _ HZS.out) rfl HZO.out ?_)
      have HSR := Lib.hid (setRow_heap _ _ _ zE _ _ HRX.out)
      refine bodyPost_ret (results_ct rfl _ _ _ _ _ _ _ rfl HSR.out Tryd.underlying37 rfl (infoF _ HZS.out)) rfl ?_
      rw [HRE.out, HNO.out]
      exact ⟨none, 0, none, 0, rfl, zero_at _ 0 zero_i64, ⟨no_ap _, no_ap _⟩, below_setRow HBX.out (by omega) _⟩
  by_cases hk2 : k = 2
  · subst hk2
    have HID := Lib.hid (rids_any q r.length cq r w5 HW5.out hrl HLL.out)
    clear hk1
    go_wp2_with fail
    refine HID.out.mono ?_
    rintro x w6 ⟨hb, hcase⟩
    have HR6 := Lib.hid (Below.keepOld hb HR5.out)
    have HB6 := Lib.hid (HB5.out.trans (hb.mono HB5.out.size))
    have HE6 := Lib.hid (HEW.out.next hb)
    have hs5 : w.heap.size < w5.heap.size := by have := HSE.out; have := HE5.out; omega
    clear hb HID
    rcases hcase with ⟨l, p, cc, hl, rfl, his, hap⟩ | ⟨hl, rfl⟩
    rotate_left
    · have HNO : Hid (readK 2 r = none) := by show _ = _; rw [readK_2, hl]; rfl
      have HRX := HR6
      have HBX := HB6
      clear hl
      skip
      go_wp2_with (first
        | refine Rdr.wpList_build rfl 37 _ rfl [] rfl _ HBU.out ?_
        | refine wpList_store_row rfl 37 _ _ rfl w.heap.size zE rfl rfl 37 zE HRX.out (infoF _ HZS.out) rfl HZO.out ?_)
      have HSR := Lib.hid (setRow_heap _ _ _ zE _ _ HRX.out)
      refine bodyPost_ret (results_ct rfl _ _ _ _ _ _ _ rfl HSR.out Tryd.underlying37 rfl (infoF _ HZS.out)) rfl ?_
      rw [HRE.out, HNO.out]
      exact ⟨none, 0, none, 0, rfl, zero_at _ 0 zero_i64, ⟨no_ap _, no_ap _⟩, below_setRow HBX.out (by omega) _⟩
    by_cases h1 : 2 ≤ l.length
    rotate_left
    · have q1 : decide ((l.length : Int) < 2) = true := decide_eq_true (by omega)
      have q2 : decide (l.length < 2) = true := decide_eq_true (by omega)
      have HNO : Hid (readK 2 r = none) := by show _ = _; rw [readK_2, hl]; show (if 2 ≤ l.length then _ else _) = _; rw [if_neg h1]
      have HRX := HR6
      have HBX := HB6
      clear hl h1 his hap
      skip
      go_wp2_with (first
        | refine Rdr.wpList_build rfl 37 _ rfl [] rfl _ HBU.out ?_
        | refine wpList_store_row rfl 37 _ _ rfl w.heap.size zE rfl rfl 37 zE HRX.out (infoF _ HZS.out) rfl HZO.out ?_)
      have HSR := Lib.hid (setRow_heap _ _ _ zE _ _ HRX.out)
      refine bodyPost_ret (results_ct rfl _ _ _ _ _ _ _ rfl HSR.out Tryd.underlying37 rfl (infoF _ HZS.out)) rfl ?_
      rw [HRE.out, HNO.out]
      exact ⟨none, 0, none, 0, rfl, zero_at _ 0 zero_i64, ⟨no_ap _, no_ap _⟩, below_setRow HBX.out (by omega) _⟩
    have q1 : decide ((l.length : Int) < 2) = false := decide_eq_false (by omega)
    have q2 : decide (l.length < 2) = false := decide_eq_false (by omega)
    obtain ⟨z0, z1, zs, rfl⟩ : ∃ z0 z1 zs, l = z0 :: z1 :: zs := by
      match l, h1 with
      | a :: b :: t, _ => exact ⟨a, b, t, rfl⟩
    have hcc := his.sl.le
    have hcm := his.sl.max
    obtain ⟨b1, o1, rfl⟩ := his.sl.addr (by simp) (by omega)
    have HR0 := Lib.hid (his.range (by omega) 0 (by simp))
    have HRG := Lib.hid (his.range (by omega) 1 (by simp))
    have HL0 : Hid (z0.length = 32) := his.each z0 (by simp)
    have HL1 : Hid (z1.length = 32) := his.each z1 (by simp)
    have HTXS : Hid (∀ x ∈ zs, x.length = 32) := fun x hx => his.each x (List.mem_cons_of_mem _ (List.mem_cons_of_mem _ hx))
    obtain ⟨NL, hNL⟩ : ∃ NL, (z0 :: z1 :: zs).length = NL := ⟨_, rfl⟩
    have hcut2 := cutIR his 2 2 rfl h1
    have HDR := Lib.hid (is_drop his 2 h1)
    have HYES : Hid (readK 2 r = some ⟨2, [], z0, z1, zs, zeros, 0, 0, 0, 0⟩) := by
      show _ = _
      rw [readK_2, hl]
      show (if 2 ≤ (z0 :: z1 :: zs).length then some (Ev.mk 2 [] z0 z1 zs zeros 0 0 0 0) else none) = _
      rw [if_pos h1]
    have HZN : Hid (NL - 2 = zs.length) := by show _ = _; rw [← hNL]; simp
    rw [hNL] at hcut2 HDR hcc h1 q1 q2 ⊢
    have h2i : (2 : Int) ≤ (NL : Int) := by omega
    have h0i : (0 : Int) < (NL : Int) := by omega
    have h1i : (1 : Int) < (NL : Int) := by omega
    have h0n : 0 < NL := by omega
    have h1n : 1 < NL := by omega
    have HBL : Hid (w5.heap.size ≤ b1) := hap _ rfl
    have HBG : Hid (b1 ≠ E) := fun e => by have h1 : w5.heap.size ≤ b1 := hap _ rfl; have := HE5.out; omega
    have HRG0 : Hid (∀ w', Turns (fun j => j = E) w6 w' → w'.rangeAt b1 o1 (idA z0).toList) := fun w' ht j v hv => by
      have := HR0.out j v hv
      rw [Nat.zero_mul, Nat.add_zero] at this
      exact ht.cell this HBG.out
    have HRG1 : Hid (∀ w', Turns (fun j => j = E) w6 w' → w'.rangeAt b1 (o1 + 32) (idA z1).toList) := fun w' ht j v hv => by
      have := HRG.out j v hv
      rw [Nat.one_mul] at this
      exact ht.cell this HBG.out
    have HED : Hid (EW w5 E 37 (Ev.zero ((2 : Nat) : Int)) none 0 none 0 w6.drew) := HE6.out.next (below_drew1 w6.heap.size w6)
    have HTH := Lib.hid (HED.out.there 2 65 (by omega))
    have HEX := Lib.hid (HED.out.block z0 z1 zs HL0.out HL1.out HTXS.out (cutI (some ⟨b1, o1, none⟩) cc 2) (cc - 2))
    have HBK := Lib.hid (built_blk z0 z1 (cutI (some ⟨b1, o1, none⟩) cc 2) zs.length (cc - 2) HL0.out HL1.out)
    have HBS : Hid ((blkA z0 z1 (cutI (some ⟨b1, o1, none⟩) cc 2) zs.length (cc - 2)).size = 65) := blkA_size HL0.out HL1.out _ _ _
    rw [HZN.out] at hcut2 HDR
    clear hl his hap hNL HR0 HRG
    go_upto_region 15 with fail
    refine wp_region_tree (fun w' => Turns (fun j => j = E) w6 w') (.take 0 (.take 1 (.take 2 (.take 3 (.take 4 (.take 5 (.take 6 (.take 7 (.take 8 (.take 9 (.one 10 .nil))))))))))) (by kernel_rfl) (by kernel_rfl) (Turns.of_below (below_drew1 _ _)) ?_
    have ht0 : Turns (fun j => j = E) w6 w6.drew := Turns.of_below (below_drew1 _ _)
    repeat (first
      | (refine tree_load rfl (by rfl) 25 _ rfl b1 o1 rfl (idA z0) _ (fun w' hb => HRG0.out w' hb) Tryd.underlying25 rfl (infoId _ (by rw [idA_size, HL0.out])) ?_; try simp only [Act.put, List.setIfInBounds_toArray, List.set_cons_zero, List.set_cons_succ])
      | (refine tree_load rfl (by rfl) 25 _ rfl b1 (o1 + 32) rfl (idA z1) _ (fun w' hb => HRG1.out w' hb) Tryd.underlying25 rfl (infoId _ (by rw [idA_size, HL1.out])) ?_; try simp only [Act.put, List.setIfInBounds_toArray, List.set_cons_zero, List.set_cons_succ])
      | (refine tree_build rfl (by rfl) 28 _ rfl [(0, .agg (idA z0)), (1, .agg (idA z1)), (2, .slice (cutI (some ⟨b1, o1, none⟩) cc 2) zs.length (cc - 2))] rfl _ HBK.out ?_; try simp only [Act.put, List.setIfInBounds_toArray, List.set_cons_zero, List.set_cons_succ])
      | (apply tree_take; (· rfl); (· rfl); (· (intro w' hb'; go_simp; try with_reducible rfl)); try simp only [Act.put, List.setIfInBounds_toArray, List.set_cons_zero, List.set_cons_succ]))
    refine tree_one rfl (by rfl) (fun K hK => oper_of_list rfl ?_)
    refine wpList_store_mid rfl 28 _ _ rfl E 2 (blkA z0 z1 (cutI (some ⟨b1, o1, none⟩) cc 2) zs.length (cc - 2)) rfl rfl (by rw [HBS.out]; exact HTH.out) (infoBl _ HBS.out) (blkA_one _ _ _ _ _) ?_
    have ht1 := turns_setCells (S := fun j => j = E) rfl (blkA z0 z1 (cutI (some ⟨b1, o1, none⟩) cc 2) zs.length (cc - 2)).toList 2 _ ht0
    refine only_end (Shut.out hK _ _ ht1 ?_)
    clear hK K ht0 HRG0 HRG1
    try simp only [Act.put]
    refine tree_nil ?_
    have HAQ : Hid (∀ a, cutI (some ⟨b1, o1, none⟩) cc 2 = some a → a.block = b1) := fun a ha => by
      unfold cutI at ha
      split at ha
      · obtain rfl := Option.some.inj ha; rfl
      · obtain rfl := Option.some.inj ha
        exact addr_add_block (⟨b1, o1, none⟩ : Addr) (2 * 32)
    have HISX := Lib.hid (is_turn HDR.out ht1 (fun a ha hg => HBG.out ((HAQ.out a ha).symm.trans hg)))
    have HRX := Lib.hid (ht1.keep HR6.out (by show ¬ _ = E; have := HSE.out; omega))
    have HBX : Hid (Below w.heap.size w _) := HB6.out.trans (ht1.below HB6.out.size (fun i (h : i = E) => by have := HSE.out; omega))
    have HAPX : Hid ((∀ a, (none : Option Addr) = some a → w.heap.size < a.block) ∧ (∀ a, cutI (some ⟨b1, o1, none⟩) cc 2 = some a → w.heap.size < a.block)) := ⟨fun _ h => (nomatch h), fun a ha => by rw [HAQ.out a ha]; have := HBL.out; omega⟩
    clear ht1
    generalize World.setCells _ E 2 _ = wX at *
    have HBSX : Hid (Bs wX none 0 0 []) := Sl.nil _ _
    skip
    -- the row of E told: A1 = evA EV.., HROW, HRX, HBX, HEX (its EW at wX), HYES
    obtain ⟨A1, hA1⟩ : ∃ A1, A1 = evA { Ev.zero ((2 : Nat) : Int) with h := z0, p := z1, tx := zs } none 0 (cutI (some ⟨b1, o1, none⟩) cc 2) (cc - 2) := ⟨_, rfl⟩
    have HAS1 : Hid (A1.size = 103) := by show _ = _; rw [hA1]; exact evA_size HEX.out.wf _ _ _ _
    have HAO1 : Hid (A1.all (·.oneCell') = true) := by show _ = _; rw [hA1]; exact evA_one _ _ _ _ _
    have HROW := Lib.hid HEX.out.row
    rw [← hA1] at HROW
    have HA1 := Lib.hid hA1
    clear hA1
    go_wp2_with (first
      | refine wpList_load_row rfl 37 _ rfl E rfl 37 A1 (0, 0) _ HROW.out Tryd.underlying37 rfl (infoF _ HAS1.out) ?_
      | refine wpList_store_row rfl 37 _ _ rfl w.heap.size A1 rfl rfl 37 zE HRX.out (infoF _ HAS1.out) (by rw [HAS1.out]; exact HZS.out) HAO1.out ?_)
    have HSR := Lib.hid (setRow_heap _ _ _ A1 _ _ HRX.out)
    have HTS : Hid (Turns (fun j => j = w.heap.size) wX (World.setRow wX w.heap.size A1)) := turns_setRow _ _ _
    refine bodyPost_ret (results_ct rfl _ _ _ _ _ _ _ rfl HSR.out Tryd.underlying37 rfl (infoF _ HAS1.out)) rfl ?_
    rw [HRE.out, HYES.out]
    exact ⟨_, _, _, _, by rw [HA1.out]; rfl, ⟨HEX.out.wf, sl_turn HBSX.out HTS.out (fun a ha hg => by have h1 := HAPX.out.1 a ha; have hg : a.block = w.heap.size := hg; omega), is_turn HISX.out HTS.out (fun a ha hg => by have h1 := HAPX.out.2 a ha; have hg : a.block = w.heap.size := hg; omega)⟩, ⟨fun a ha => Nat.le_of_lt (HAPX.out.1 a ha), fun a ha => Nat.le_of_lt (HAPX.out.2 a ha)⟩, below_setRow HBX.out (by omega) _⟩
  by_cases hk3 : k = 3
  · subst hk3
    have HID := Lib.hid (rids_any q r.length cq r w5 HW5.out hrl HLL.out)
    clear hk1 hk2
    go_wp2_with fail
    refine HID.out.mono ?_
    rintro x w6 ⟨hb, hcase⟩
    have HR6 := Lib.hid (Below.keepOld hb HR5.out)
    have HB6 := Lib.hid (HB5.out.trans (hb.mono HB5.out.size))
    have HE6 := Lib.hid (HEW.out.next hb)
    have hs5 : w.heap.size < w5.heap.size := by have := HSE.out; have := HE5.out; omega
    clear hb HID
    skip
    obtain ⟨l, p, cc, hl, rfl, his, hap⟩ | ⟨hl, rfl⟩ := hcase
    rotate_left
    · have HNO : Hid (readK 3 r = none) := by show _ = _; rw [readK_3 3 (by omega), hl]; rfl
      have HRX := HR6
      have HBX := HB6
      clear hl
      skip
      go_wp2_with (first
        | refine Rdr.wpList_build rfl 37 _ rfl [] rfl _ HBU.out ?_
        | refine wpList_store_row rfl 37 _ _ rfl w.heap.size zE rfl rfl 37 zE HRX.out (infoF _ HZS.out) rfl HZO.out ?_)
      have HSR := Lib.hid (setRow_heap _ _ _ zE _ _ HRX.out)
      refine bodyPost_ret (results_ct rfl _ _ _ _ _ _ _ rfl HSR.out Tryd.underlying37 rfl (infoF _ HZS.out)) rfl ?_
      rw [HRE.out, HNO.out]
      exact ⟨none, 0, none, 0, rfl, zero_at _ 0 zero_i64, ⟨no_ap _, no_ap _⟩, below_setRow HBX.out (by omega) _⟩
    by_cases h1 : l.length = 1
    rotate_left
    · obtain ⟨q1, q2, q3, q4⟩ := (len_facts l 1).2 h1
      have HNO : Hid (readK 3 r = none) := by show _ = _; rw [readK_3 3 (by omega), hl]; show (if l.length = 1 then _ else _) = _; rw [if_neg h1]
      have HRX := HR6
      have HBX := HB6
      clear hl h1 his hap
      skip
      go_wp2_with (first
        | refine Rdr.wpList_build rfl 37 _ rfl [] rfl _ HBU.out ?_
        | refine wpList_store_row rfl 37 _ _ rfl w.heap.size zE rfl rfl 37 zE HRX.out (infoF _ HZS.out) rfl HZO.out ?_)
      have HSR := Lib.hid (setRow_heap _ _ _ zE _ _ HRX.out)
      refine bodyPost_ret (results_ct rfl _ _ _ _ _ _ _ rfl HSR.out Tryd.underlying37 rfl (infoF _ HZS.out)) rfl ?_
      rw [HRE.out, HNO.out]
      exact ⟨none, 0, none, 0, rfl, zero_at _ 0 zero_i64, ⟨no_ap _, no_ap _⟩, below_setRow HBX.out (by omega) _⟩
    obtain ⟨q1, q2, q3, q4⟩ := (len_facts l 1).1 h1
    obtain ⟨z, rfl⟩ := len1 h1
    have hcc := his.sl.le
    have hcm := his.sl.max
    obtain ⟨b1, o1, rfl⟩ := his.sl.addr (by show 0 < 1; omega) (by omega)
    have HRZ := Lib.hid (his.range (by omega) 0 (by show 0 < 1; omega))
    have HZL : Hid (z.length = 32) := his.each z (by simp)
    have HYES : Hid (readK 3 r = some ⟨((3 : Nat) : Int), [], zeros, zeros, [], z, 0, 0, 0, 0⟩) := by show _ = _; rw [readK_3 3 (by omega), hl]; rfl
    have HRG : Hid (w6.rangeAt b1 o1 (idA z).toList) := fun j v hv => by
      have := HRZ.out j v hv
      rw [Nat.zero_mul, Nat.add_zero] at this
      exact this
    have HTH := Lib.hid (HE6.out.there 67 32 (by omega))
    have HEX := Lib.hid (HE6.out.ident z HZL.out)
    have ht1 := turns_setCells (S := fun j => j = E) rfl (idA z).toList 67 w6 (Turns.refl _ _)
    have HRX := Lib.hid (ht1.keep HR6.out (by show ¬ _ = E; have := HSE.out; omega))
    have HBX : Hid (Below w.heap.size w _) := HB6.out.trans (ht1.below HB6.out.size (fun i (h : i = E) => by have := HSE.out; omega))
    have HAPX : Hid ((∀ a, (none : Option Addr) = some a → w.heap.size < a.block) ∧ (∀ a, (none : Option Addr) = some a → w.heap.size < a.block)) := ap_none _
    clear hl h1 his hap ht1 HRZ
    go_upto_region 23 with (first
      | ((with_reducible refine wpAt 92 ?_); refine loadM (by rfl) 25 _ rfl b1 o1 rfl (idA z) _ HRG.out Tryd.underlying25 rfl (infoId _ (by rw [idA_size, HZL.out])) ?_)
      | refine wpList_store_mid rfl 25 _ _ rfl E 67 (idA z) rfl rfl (by rw [idA_size, HZL.out]; exact HTH.out) (infoId _ (by rw [idA_size, HZL.out])) (idA_one _) ?_)
    generalize World.setCells w6 E 67 _ = wX at *
    have HBSX : Hid (Bs wX none 0 0 []) := Sl.nil _ _
    have HISX : Hid (Is wX none 0 0 32 []) := Is.nil _ _
    skip
    -- the row of E told: A1 = evA EV.., HROW, HRX, HBX, HEX (its EW at wX), HYES
    obtain ⟨A1, hA1⟩ : ∃ A1, A1 = evA { Ev.zero ((3 : Nat) : Int) with id := z } none 0 none 0 := ⟨_, rfl⟩
    have HAS1 : Hid (A1.size = 103) := by show _ = _; rw [hA1]; exact evA_size HEX.out.wf _ _ _ _
    have HAO1 : Hid (A1.all (·.oneCell') = true) := by show _ = _; rw [hA1]; exact evA_one _ _ _ _ _
    have HROW := Lib.hid HEX.out.row
    rw [← hA1] at HROW
    have HA1 := Lib.hid hA1
    clear hA1
    go_wp2_with (first
      | refine wpList_load_row rfl 37 _ rfl E rfl 37 A1 (0, 0) _ HROW.out Tryd.underlying37 rfl (infoF _ HAS1.out) ?_
      | refine wpList_store_row rfl 37 _ _ rfl w.heap.size A1 rfl rfl 37 zE HRX.out (infoF _ HAS1.out) (by rw [HAS1.out]; exact HZS.out) HAO1.out ?_)
    have HSR := Lib.hid (setRow_heap _ _ _ A1 _ _ HRX.out)
    have HTS : Hid (Turns (fun j => j = w.heap.size) wX (World.setRow wX w.heap.size A1)) := turns_setRow _ _ _
    refine bodyPost_ret (results_ct rfl _ _ _ _ _ _ _ rfl HSR.out Tryd.underlying37 rfl (infoF _ HAS1.out)) rfl ?_
    rw [HRE.out, HYES.out]
    exact ⟨_, _, _, _, by rw [HA1.out]; rfl, ⟨HEX.out.wf, sl_turn HBSX.out HTS.out (fun a ha hg => by have h1 := HAPX.out.1 a ha; have hg : a.block = w.heap.size := hg; omega), is_turn HISX.out HTS.out (fun a ha hg => by have h1 := HAPX.out.2 a ha; have hg : a.block = w.heap.size := hg; omega)⟩, ⟨fun a ha => Nat.le_of_lt (HAPX.out.1 a ha), fun a ha => Nat.le_of_lt (HAPX.out.2 a ha)⟩, below_setRow HBX.out (by omega) _⟩
  by_cases hk4 : k = 4
  · subst hk4
    have HID := Lib.hid (rids_any q r.length cq r w5 HW5.out hrl HLL.out)
    clear hk1 hk2 hk3
    go_wp2_with fail
    refine HID.out.mono ?_
    rintro x w6 ⟨hb, hcase⟩
    have HR6 := Lib.hid (Below.keepOld hb HR5.out)
    have HB6 := Lib.hid (HB5.out.trans (hb.mono HB5.out.size))
    have HE6 := Lib.hid (HEW.out.next hb)
    have hs5 : w.heap.size < w5.heap.size := by have := HSE.out; have := HE5.out; omega
    clear hb HID
    skip
    obtain ⟨l, p, cc, hl, rfl, his, hap⟩ | ⟨hl, rfl⟩ := hcase
    rotate_left
    · have HNO : Hid (readK 4 r = none) := by show _ = _; rw [readK_3 4 (by omega), hl]; rfl
      have HRX := HR6
      have HBX := HB6
      clear hl
      skip
      go_wp2_with (first
        | refine Rdr.wpList_build rfl 37 _ rfl [] rfl _ HBU.out ?_
        | refine wpList_store_row rfl 37 _ _ rfl w.heap.size zE rfl rfl 37 zE HRX.out (infoF _ HZS.out) rfl HZO.out ?_)
      have HSR := Lib.hid (setRow_heap _ _ _ zE _ _ HRX.out)
      refine bodyPost_ret (results_ct rfl _ _ _ _ _ _ _ rfl HSR.out Tryd.underlying37 rfl (infoF _ HZS.out)) rfl ?_
      rw [HRE.out, HNO.out]
      exact ⟨none, 0, none, 0, rfl, zero_at _ 0 zero_i64, ⟨no_ap _, no_ap _⟩, below_setRow HBX.out (by omega) _⟩
    by_cases h1 : l.length = 1
    rotate_left
    · obtain ⟨q1, q2, q3, q4⟩ := (len_facts l 1).2 h1
      have HNO : Hid (readK 4 r = none) := by show _ = _; rw [readK_3 4 (by omega), hl]; show (if l.length = 1 then _ else _) = _; rw [if_neg h1]
      have HRX := HR6
      have HBX := HB6
      clear hl h1 his hap
      skip
      go_wp2_with (first
        | refine Rdr.wpList_build rfl 37 _ rfl [] rfl _ HBU.out ?_
        | refine wpList_store_row rfl 37 _ _ rfl w.heap.size zE rfl rfl 37 zE HRX.out (infoF _ HZS.out) rfl HZO.out ?_)
      have HSR := Lib.hid (setRow_heap _ _ _ zE _ _ HRX.out)
      refine bodyPost_ret (results_ct rfl _ _ _ _ _ _ _ rfl HSR.out Tryd.underlying37 rfl (infoF _ HZS.out)) rfl ?_
      rw [HRE.out, HNO.out]
      exact ⟨none, 0, none, 0, rfl, zero_at _ 0 zero_i64, ⟨no_ap _, no_ap _⟩, below_setRow HBX.out (by omega) _⟩
    obtain ⟨q1, q2, q3, q4⟩ := (len_facts l 1).1 h1
    obtain ⟨z, rfl⟩ := len1 h1
    have hcc := his.sl.le
    have hcm := his.sl.max
    obtain ⟨b1, o1, rfl⟩ := his.sl.addr (by show 0 < 1; omega) (by omega)
    have HRZ := Lib.hid (his.range (by omega) 0 (by show 0 < 1; omega))
    have HZL : Hid (z.length = 32) := his.each z (by simp)
    have HYES : Hid (readK 4 r = some ⟨((4 : Nat) : Int), [], zeros, zeros, [], z, 0, 0, 0, 0⟩) := by show _ = _; rw [readK_3 4 (by omega), hl]; rfl
    have HRG : Hid (w6.rangeAt b1 o1 (idA z).toList) := fun j v hv => by
      have := HRZ.out j v hv
      rw [Nat.zero_mul, Nat.add_zero] at this
      exact this
    have HTH := Lib.hid (HE6.out.there 67 32 (by omega))
    have HEX := Lib.hid (HE6.out.ident z HZL.out)
    have ht1 := turns_setCells (S := fun j => j = E) rfl (idA z).toList 67 w6 (Turns.refl _ _)
    have HRX := Lib.hid (ht1.keep HR6.out (by show ¬ _ = E; have := HSE.out; omega))
    have HBX : Hid (Below w.heap.size w _) := HB6.out.trans (ht1.below HB6.out.size (fun i (h : i = E) => by have := HSE.out; omega))
    have HAPX : Hid ((∀ a, (none : Option Addr) = some a → w.heap.size < a.block) ∧ (∀ a, (none : Option Addr) = some a → w.heap.size < a.block)) := ap_none _
    clear hl h1 his hap ht1 HRZ
    go_upto_region 23 with (first
      | ((with_reducible refine wpAt 92 ?_); refine loadM (by rfl) 25 _ rfl b1 o1 rfl (idA z) _ HRG.out Tryd.underlying25 rfl (infoId _ (by rw [idA_size, HZL.out])) ?_)
      | refine wpList_store_mid rfl 25 _ _ rfl E 67 (idA z) rfl rfl (by rw [idA_size, HZL.out]; exact HTH.out) (infoId _ (by rw [idA_size, HZL.out])) (idA_one _) ?_)
    generalize World.setCells w6 E 67 _ = wX at *
    have HBSX : Hid (Bs wX none 0 0 []) := Sl.nil _ _
    have HISX : Hid (Is wX none 0 0 32 []) := Is.nil _ _
    skip
    -- the row of E told: A1 = evA EV.., HROW, HRX, HBX, HEX (its EW at wX), HYES
    obtain ⟨A1, hA1⟩ : ∃ A1, A1 = evA { Ev.zero ((4 : Nat) : Int) with id := z } none 0 none 0 := ⟨_, rfl⟩
    have HAS1 : Hid (A1.size = 103) := by show _ = _; rw [hA1]; exact evA_size HEX.out.wf _ _ _ _
    have HAO1 : Hid (A1.all (·.oneCell') = true) := by show _ = _; rw [hA1]; exact evA_one _ _ _ _ _
    have HROW := Lib.hid HEX.out.row
    rw [← hA1] at HROW
    have HA1 := Lib.hid hA1
    clear hA1
    go_wp2_with (first
      | refine wpList_load_row rfl 37 _ rfl E rfl 37 A1 (0, 0) _ HROW.out Tryd.underlying37 rfl (infoF _ HAS1.out) ?_
      | refine wpList_store_row rfl 37 _ _ rfl w.heap.size A1 rfl rfl 37 zE HRX.out (infoF _ HAS1.out) (by rw [HAS1.out]; exact HZS.out) HAO1.out ?_)
    have HSR := Lib.hid (setRow_heap _ _ _ A1 _ _ HRX.out)
    have HTS : Hid (Turns (fun j => j = w.heap.size) wX (World.setRow wX w.heap.size A1)) := turns_setRow _ _ _
    refine bodyPost_ret (results_ct rfl _ _ _ _ _ _ _ rfl HSR.out Tryd.underlying37 rfl (infoF _ HAS1.out)) rfl ?_
    rw [HRE.out, HYES.out]
    exact ⟨_, _, _, _, by rw [HA1.out]; rfl, ⟨HEX.out.wf, sl_turn HBSX.out HTS.out (fun a ha hg => by have h1 := HAPX.out.1 a ha; have hg : a.block = w.heap.size := hg; omega), is_turn HISX.out HTS.out (fun a ha hg => by have h1 := HAPX.out.2 a ha; have hg : a.block = w.heap.size := hg; omega)⟩, ⟨fun a ha => Nat.le_of_lt (HAPX.out.1 a ha), fun a ha => Nat.le_of_lt (HAPX.out.2 a ha)⟩, below_setRow HBX.out (by omega) _⟩
  by_cases hk5 : k = 5
  · subst hk5
    have HNM := Lib.hid (rnumbers_any 1 65535 (by omega) (by omega) q r.length cq r w5 HW5.out HLL.out)
    clear hk1 hk2 hk3 hk4
    go_wp2_with fail
    refine HNM.out.mono ?_
    rintro x w6 ⟨hb, hcase⟩
    have HR6 := Lib.hid (Below.keepOld hb HR5.out)
    have HB6 := Lib.hid (HB5.out.trans (hb.mono HB5.out.size))
    have HE6 := Lib.hid (HEW.out.next hb)
    have HY6 := Lib.hid (fun i (h : i = E) => (show w.heap.size ≤ i by have := HSE.out; omega))
    have hs5 : w.heap.size < w5.heap.size := by have := HSE.out; have := HE5.out; omega
    clear hb HNM
    rcases hcase with ⟨hlen, l, p, cc, hnl, rfl, hsl, hap⟩ | ⟨hbad, rfl⟩
    rotate_left
    · have HNO : Hid (readK 5 r = none) := by
        show _ = _
        unfold readK
        rw [if_neg (by omega), if_neg (by omega), if_neg (by omega), if_pos rfl]
        rcases hbad with hb | hb
        · rw [if_neg hb]
        · split
          · rw [hb]; rfl
          · rfl
      have HRX := HR6
      have HBX := HB6
      clear hbad
      skip
      go_wp2_with (first
        | refine Rdr.wpList_build rfl 37 _ rfl [] rfl _ HBU.out ?_
        | refine wpList_store_row rfl 37 _ _ rfl w.heap.size zE rfl rfl 37 zE HRX.out (infoF _ HZS.out) rfl HZO.out ?_)
      have HSR := Lib.hid (setRow_heap _ _ _ zE _ _ HRX.out)
      refine bodyPost_ret (results_ct rfl _ _ _ _ _ _ _ rfl HSR.out Tryd.underlying37 rfl (infoF _ HZS.out)) rfl ?_
      rw [HRE.out, HNO.out]
      exact ⟨none, 0, none, 0, rfl, zero_at _ 0 zero_i64, ⟨no_ap _, no_ap _⟩, below_setRow HBX.out (by omega) _⟩
    obtain ⟨_, hle2, hll⟩ := numsM_back hnl
    obtain ⟨v, rfl⟩ := List.length_eq_one_iff.1 (hll.trans hlen)
    have HV := Lib.hid (nat_i64 (hle2 v (by simp)))
    have HYES : Hid (readK 5 r = some ⟨5, [], zeros, zeros, [], zeros, (v : Int), 0, 0, 0⟩) := by
      show _ = _
      unfold readK
      rw [if_neg (by omega), if_neg (by omega), if_neg (by omega), if_pos rfl, if_pos hlen, hnl]; rfl
    have hcc := hsl.le
    have hcm := hsl.max
    obtain ⟨b1, o1, rfl⟩ := hsl.addr (by show 0 < 1; omega) (by omega)
    have hcv : w6.cell? ⟨b1, o1, none⟩ = some (.int .i64 (v : Int)) := hsl.at (j := 0) rfl
    have hE1 : w6.cell? ⟨E, 99, none⟩ = some (.int .i64 0) := HE6.out.cells.n
    have hfz : ∀ j, w6.frozen? ⟨E, j, none⟩ = false := fun j => HE6.out.frozen j
    have HEX := Lib.hid (HE6.out.num (v : Int) HV.out)
    have HTX : Hid (Turns (fun j => j = E) w6 (w6.setCell ⟨E, 99, none⟩ (.int .i64 (v : Int)))) := (Turns.refl (fun j => j = E) w6).setCell (p := ⟨E, 99, none⟩) (fun _ => rfl) _
    have HRX := Lib.hid (HTX.out.keep HR6.out (by show ¬ _ = E; have := HSE.out; omega))
    have HBX : Hid (Below w.heap.size w (w6.setCell ⟨E, 99, none⟩ (.int .i64 (v : Int)))) := HB6.out.trans (HTX.out.below HB6.out.size HY6.out)
    have HAPX : Hid ((∀ a, (none : Option Addr) = some a → w.heap.size < a.block) ∧ (∀ a, (none : Option Addr) = some a → w.heap.size < a.block)) := ap_none _
    clear hlen hnl hsl hap hle2 hll
    go_upto_region 29 with fail
    generalize World.setCell w6 ⟨E, 99, none⟩ _ = wX at *
    have HBSX : Hid (Bs wX none 0 0 []) := Sl.nil _ _
    have HISX : Hid (Is wX none 0 0 32 []) := Is.nil _ _
    skip
    -- the row of E told: A1 = evA EV.., HROW, HRX, HBX, HEX (its EW at wX), HYES
    obtain ⟨A1, hA1⟩ : ∃ A1, A1 = evA { Ev.zero ((5 : Nat) : Int) with n := (v : Int) } none 0 none 0 := ⟨_, rfl⟩
    have HAS1 : Hid (A1.size = 103) := by show _ = _; rw [hA1]; exact evA_size HEX.out.wf _ _ _ _
    have HAO1 : Hid (A1.all (·.oneCell') = true) := by show _ = _; rw [hA1]; exact evA_one _ _ _ _ _
    have HROW := Lib.hid HEX.out.row
    rw [← hA1] at HROW
    have HA1 := Lib.hid hA1
    clear hA1
    go_wp2_with (first
      | refine wpList_load_row rfl 37 _ rfl E rfl 37 A1 (0, 0) _ HROW.out Tryd.underlying37 rfl (infoF _ HAS1.out) ?_
      | refine wpList_store_row rfl 37 _ _ rfl w.heap.size A1 rfl rfl 37 zE HRX.out (infoF _ HAS1.out) (by rw [HAS1.out]; exact HZS.out) HAO1.out ?_)
    have HSR := Lib.hid (setRow_heap _ _ _ A1 _ _ HRX.out)
    have HTS : Hid (Turns (fun j => j = w.heap.size) wX (World.setRow wX w.heap.size A1)) := turns_setRow _ _ _
    refine bodyPost_ret (results_ct rfl _ _ _ _ _ _ _ rfl HSR.out Tryd.underlying37 rfl (infoF _ HAS1.out)) rfl ?_
    rw [HRE.out, HYES.out]
    exact ⟨_, _, _, _, by rw [HA1.out]; rfl, ⟨HEX.out.wf, sl_turn HBSX.out HTS.out (fun a ha hg => by have h1 := HAPX.out.1 a ha; have hg : a.block = w.heap.size := hg; omega), is_turn HISX.out HTS.out (fun a ha hg => by have h1 := HAPX.out.2 a ha; have hg : a.block = w.heap.size := hg; omega)⟩, ⟨fun a ha => Nat.le_of_lt (HAPX.out.1 a ha), fun a ha => Nat.le_of_lt (HAPX.out.2 a ha)⟩, below_setRow HBX.out (by omega) _⟩
  by_cases hk6 : k = 6
  · subst hk6
    have HNM := Lib.hid (rnumbers_any 4 65535 (by omega) (by omega) q r.length cq r w5 HW5.out HLL.out)
    clear hk1 hk2 hk3 hk4 hk5
    go_wp2_with fail
    refine HNM.out.mono ?_
    rintro x w6 ⟨hb, hcase⟩
    have HR6 := Lib.hid (Below.keepOld hb HR5.out)
    have HB6 := Lib.hid (HB5.out.trans (hb.mono HB5.out.size))
    have HE6 := Lib.hid (HEW.out.next hb)
    have HY6 := Lib.hid (fun i (h : i = E) => (show w.heap.size ≤ i by have := HSE.out; omega))
    have hs5 : w.heap.size < w5.heap.size := by have := HSE.out; have := HE5.out; omega
    clear hb HNM
    rcases hcase with ⟨hlen, l, p, cc, hnl, rfl, hsl, hap⟩ | ⟨hbad, rfl⟩
    rotate_left
    · have HNO : Hid (readK 6 r = none) := by
        show _ = _
        unfold readK
        rw [if_neg (by omega), if_neg (by omega), if_neg (by omega), if_neg (by omega), if_pos rfl]
        rcases hbad with hb | hb
        · rw [if_neg hb]
        · split
          · rw [hb]; rfl
          · rfl
      have HRX := HR6
      have HBX := HB6
      clear hbad
      skip
      go_wp2_with (first
        | refine Rdr.wpList_build rfl 37 _ rfl [] rfl _ HBU.out ?_
        | refine wpList_store_row rfl 37 _ _ rfl w.heap.size zE rfl rfl 37 zE HRX.out (infoF _ HZS.out) rfl HZO.out ?_)
      have HSR := Lib.hid (setRow_heap _ _ _ zE _ _ HRX.out)
      refine bodyPost_ret (results_ct rfl _ _ _ _ _ _ _ rfl HSR.out Tryd.underlying37 rfl (infoF _ HZS.out)) rfl ?_
      rw [HRE.out, HNO.out]
      exact ⟨none, 0, none, 0, rfl, zero_at _ 0 zero_i64, ⟨no_ap _, no_ap _⟩, below_setRow HBX.out (by omega) _⟩
    obtain ⟨_, hle2, hll⟩ := numsM_back hnl
    have hl4 : l.length = 4 := hll.trans hlen
    obtain ⟨v0, v1, v2, v3, rfl⟩ : ∃ v0 v1 v2 v3, l = [v0, v1, v2, v3] := by
      match l, hl4 with
      | [a, b, c, d], _ => exact ⟨a, b, c, d, rfl⟩
    have HV0 := Lib.hid (nat_i64 (hle2 v0 (by simp)))
    have HV1 := Lib.hid (nat_i64 (hle2 v1 (by simp)))
    have HV2 := Lib.hid (nat_i64 (hle2 v2 (by simp)))
    have HV3 := Lib.hid (nat_i64 (hle2 v3 (by simp)))
    have HYES : Hid (readK 6 r = some ⟨6, [], zeros, zeros, [], zeros, (v0 : Int), (v1 : Int), (v2 : Int), (v3 : Int)⟩) := by
      show _ = _
      unfold readK
      rw [if_neg (by omega), if_neg (by omega), if_neg (by omega), if_neg (by omega), if_pos rfl, if_pos hlen, hnl]; rfl
    have hcc := hsl.le
    have hcm := hsl.max
    obtain ⟨b1, o1, rfl⟩ := hsl.addr (by show 0 < 4; omega) (by omega)
    have hcv : w6.cell? ⟨b1, o1, none⟩ = some (.int .i64 (v0 : Int)) := hsl.at (j := 0) rfl
    have hE1 : w6.cell? ⟨E, 99, none⟩ = some (.int .i64 0) := HE6.out.cells.n
    have hfz : ∀ j, w6.frozen? ⟨E, j, none⟩ = false := fun j => HE6.out.frozen j
    have HE7 := Lib.hid (HE6.out.num (v0 : Int) HV0.out)
    have HTX : Hid (Turns (fun j => j = E) w6 (w6.setCell ⟨E, 99, none⟩ (.int .i64 (v0 : Int)))) := (Turns.refl (fun j => j = E) w6).setCell (p := ⟨E, 99, none⟩) (fun _ => rfl) _
    have HBG : Hid (b1 ≠ E) := fun e => by have h1 : w5.heap.size ≤ b1 := hap _ rfl; have := HE5.out; omega
    have HS7 := Lib.hid (sl_turn hsl HTX.out (fun a ha hg => HBG.out (by obtain rfl := Option.some.inj ha; exact hg)))
    have HR7 := Lib.hid (HTX.out.keep HR6.out (by show ¬ _ = E; have := HSE.out; omega))
    have HB7 : Hid (Below w.heap.size w (w6.setCell ⟨E, 99, none⟩ (.int .i64 (v0 : Int)))) := HB6.out.trans (HTX.out.below HB6.out.size HY6.out)
    have HAPX : Hid ((∀ a, (none : Option Addr) = some a → w.heap.size < a.block) ∧ (∀ a, (none : Option Addr) = some a → w.heap.size < a.block)) := ap_none _
    clear hlen hnl hsl hap hle2 hll hl4
    go_upto_region 35 with fail
    generalize World.setCell w6 ⟨E, 99, none⟩ _ = w7 at *
    clear hcv hE1 hfz
    have HC1 : Hid (∀ w', Turns (fun j => j = E) w7 w' → w'.cell? ⟨b1, o1 + 1, none⟩ = some (.int .i64 (v1 : Int))) := fun w' ht => ht.cell (HS7.out.at (j := 1) rfl) HBG.out
    have HC2 : Hid (∀ w', Turns (fun j => j = E) w7 w' → w'.cell? ⟨b1, o1 + 2, none⟩ = some (.int .i64 (v2 : Int))) := fun w' ht => ht.cell (HS7.out.at (j := 2) rfl) HBG.out
    have HC3 : Hid (∀ w', Turns (fun j => j = E) w7 w' → w'.cell? ⟨b1, o1 + 3, none⟩ = some (.int .i64 (v3 : Int))) := fun w' ht => ht.cell (HS7.out.at (j := 3) rfl) HBG.out
    have HED : Hid (EW w5 E 37 { Ev.zero ((6 : Nat) : Int) with n := (v0 : Int) } none 0 none 0 w7.drew) := HE7.out.next (below_drew1 w7.heap.size w7)
    have HTH := Lib.hid (HED.out.there 100 3 (by omega))
    have HEX := Lib.hid (HED.out.units (v1 : Int) (v2 : Int) (v3 : Int) HV1.out HV2.out HV3.out)
    have HBK := Lib.hid (built_u3 (v1 : Int) (v2 : Int) (v3 : Int))
    refine wp_region_tree (fun w' => Turns (fun j => j = E) w7 w') (.take 0 (.take 1 (.take 2 (.take 3 (.take 4 (.take 5 (.take 6 (.take 7 (.take 8 (.take 9 (.take 10 (.one 11 .nil)))))))))))) (by kernel_rfl) (by kernel_rfl) (Turns.of_below (below_drew1 _ _)) ?_
    have ht0 : Turns (fun j => j = E) w7 w7.drew := Turns.of_below (below_drew1 _ _)
    repeat (first
      | (refine tree_build rfl (by rfl) 29 _ rfl [(0, .int .i64 (v1 : Int)), (1, .int .i64 (v2 : Int)), (2, .int .i64 (v3 : Int))] rfl _ HBK.out ?_; try simp only [Act.put, List.setIfInBounds_toArray, List.set_cons_zero, List.set_cons_succ])
      | (apply tree_take; (· rfl); (· rfl); (· (intro w' hb'; go_simp; try with_reducible rfl)); try simp only [Act.put, List.setIfInBounds_toArray, List.set_cons_zero, List.set_cons_succ])
      | (apply tree_take; (· rfl); (· rfl); (· (intro w' hb'; have hk' := (HC1.out) w' hb'; go_simp; try with_reducible rfl)); try simp only [Act.put, List.setIfInBounds_toArray, List.set_cons_zero, List.set_cons_succ])
      | (apply tree_take; (· rfl); (· rfl); (· (intro w' hb'; have hk' := (HC2.out) w' hb'; go_simp; try with_reducible rfl)); try simp only [Act.put, List.setIfInBounds_toArray, List.set_cons_zero, List.set_cons_succ])
      | (apply tree_take; (· rfl); (· rfl); (· (intro w' hb'; have hk' := (HC3.out) w' hb'; go_simp; try with_reducible rfl)); try simp only [Act.put, List.setIfInBounds_toArray, List.set_cons_zero, List.set_cons_succ]))
    refine tree_one rfl (by rfl) (fun K hK => oper_of_list rfl ?_)
    refine wpList_store_mid rfl 29 _ _ rfl E 100 #[.int .i64 (v1 : Int), .int .i64 (v2 : Int), .int .i64 (v3 : Int)] rfl rfl HTH.out (infoU3 _ rfl) (by kernel_rfl) ?_
    have ht1 := turns_setCells (S := fun j => j = E) rfl [Value.int .i64 (v1 : Int), .int .i64 (v2 : Int), .int .i64 (v3 : Int)] 100 _ ht0
    refine only_end (Shut.out hK _ _ ht1 ?_)
    clear hK K ht0 HC1 HC2 HC3
    try simp only [Act.put]
    refine tree_nil ?_
    have HRX := Lib.hid (ht1.keep HR7.out (by show ¬ _ = E; have := HSE.out; omega))
    have HBX : Hid (Below w.heap.size w _) := HB7.out.trans (ht1.below HB7.out.size (fun i (h : i = E) => by have := HSE.out; omega))
    clear ht1
    generalize World.setCells _ E 100 _ = wX at *
    have HBSX : Hid (Bs wX none 0 0 []) := Sl.nil _ _
    have HISX : Hid (Is wX none 0 0 32 []) := Is.nil _ _
    skip
    -- the row of E told: A1 = evA EV.., HROW, HRX, HBX, HEX (its EW at wX), HYES
    obtain ⟨A1, hA1⟩ : ∃ A1, A1 = evA { Ev.zero ((6 : Nat) : Int) with n := (v0 : Int), u0 := (v1 : Int), u1 := (v2 : Int), u2 := (v3 : Int) } none 0 none 0 := ⟨_, rfl⟩
    have HAS1 : Hid (A1.size = 103) := by show _ = _; rw [hA1]; exact evA_size HEX.out.wf _ _ _ _
    have HAO1 : Hid (A1.all (·.oneCell') = true) := by show _ = _; rw [hA1]; exact evA_one _ _ _ _ _
    have HROW := Lib.hid HEX.out.row
    rw [← hA1] at HROW
    have HA1 := Lib.hid hA1
    clear hA1
    go_wp2_with (first
      | refine wpList_load_row rfl 37 _ rfl E rfl 37 A1 (0, 0) _ HROW.out Tryd.underlying37 rfl (infoF _ HAS1.out) ?_
      | refine wpList_store_row rfl 37 _ _ rfl w.heap.size A1 rfl rfl 37 zE HRX.out (infoF _ HAS1.out) (by rw [HAS1.out]; exact HZS.out) HAO1.out ?_)
    have HSR := Lib.hid (setRow_heap _ _ _ A1 _ _ HRX.out)
    have HTS : Hid (Turns (fun j => j = w.heap.size) wX (World.setRow wX w.heap.size A1)) := turns_setRow _ _ _
    refine bodyPost_ret (results_ct rfl _ _ _ _ _ _ _ rfl HSR.out Tryd.underlying37 rfl (infoF _ HAS1.out)) rfl ?_
    rw [HRE.out, HYES.out]
    exact ⟨_, _, _, _, by rw [HA1.out]; rfl, ⟨HEX.out.wf, sl_turn HBSX.out HTS.out (fun a ha hg => by have h1 := HAPX.out.1 a ha; have hg : a.block = w.heap.size := hg; omega), is_turn HISX.out HTS.out (fun a ha hg => by have h1 := HAPX.out.2 a ha; have hg : a.block = w.heap.size := hg; omega)⟩, ⟨fun a ha => Nat.le_of_lt (HAPX.out.1 a ha), fun a ha => Nat.le_of_lt (HAPX.out.2 a ha)⟩, below_setRow HBX.out (by omega) _⟩
  have hk0' : k = 0 := by
    by_cases h0 : k = 0
    · exact h0
    · have := (kind_name HKK.out h0).2
      omega
  subst hk0'
  have HNO : Hid (readK 0 r = none) := readK_0 r
  have HRX := HR5
  have HBX := HB5
  skip
  go_wp2_with (first
    | refine Rdr.wpList_build rfl 37 _ rfl [] rfl _ HBU.out ?_
    | refine wpList_store_row rfl 37 _ _ rfl w.heap.size zE rfl rfl 37 zE HRX.out (infoF _ HZS.out) rfl HZO.out ?_)
  have HSR := Lib.hid (setRow_heap _ _ _ zE _ _ HRX.out)
  refine bodyPost_ret (results_ct rfl _ _ _ _ _ _ _ rfl HSR.out Tryd.underlying37 rfl (infoF _ HZS.out)) rfl ?_
  rw [HRE.out, HNO.out]
  exact ⟨none, 0, none, 0, rfl, zero_at _ 0 zero_i64, ⟨no_ap _, no_ap _⟩, below_setRow HBX.out (by omega) _⟩
theorem rread_any (s : List UInt8) (w : World) (hs : s.length ≤ 900000) : Calls Tryd.prog 12 #[.string (S s)] w (ReadP (readE s) w) :=
  (rreadQ_any s w hs).mono fun _ _ ⟨pb, cb, q, c, h1, h2, _, h3⟩ => ⟨pb, cb, q, c, h1, h2, h3⟩
end Go.Proofs.YtcddgbobbogpgaaDoor.Scr
