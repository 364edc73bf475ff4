/- LAYER 18: the walk of DiskKeeps, whole. Conditions: none. -/
import Derived.Test.YtlmlcedjhpfeiaaDkPlay2
import Derived.Test.YtlmlcedjhpfeiaaDkKeepsP
import Derived.Test.YtlmlcedjhpfeiaaDkOpen
namespace Go.Proofs.Ytlmlcedjhpfeiaa.Dk
open Go.RowKit Go.Mir Go.Mir.Parts

set_option maxRecDepth 100000 in
set_option maxHeartbeats 3200000 in
theorem law_keeps (room : Int) (hroom : -9223372036854775808 ≤ room ∧ room ≤ 9223372036854775807) (p : Option Addr) (c : Nat) (os : List DOp) (rows : List (List Value)) (W : World) (hO : DOps W p os.length c os rows) (hos : os.length ≤ 2199023255552)
    (hbl : ∀ o ∈ os, o.b.length ≤ 140737488355328 ∧ o.us.length ≤ 140737488355328) (pb : Option Addr) (cb : Nat) (b : List UInt8) (hB : Bs W pb b.length cb b) (units : Int) (hun : -9223372036854775808 ≤ units ∧ units ≤ 9223372036854775807) :
    Calls Try.prog 4 #[.agg #[.int .i64 room, .slice p os.length c], .slice pb b.length cb, .int .i64 units] W fun e w' => e = .returned (.bool true) ∧ Below W.heap.size W w' := by
  have HO := Lib.hid hO
  have HBLL := Lib.hid hbl
  have HBS := Lib.hid hB
  have HOS := Lib.hid hos
  have HUN := Lib.hid hun
  have hle := hO.rs.sl.le
  have hmax := hO.rs.sl.max
  have hble := hB.le
  have hbmax := hB.max
  have hbx := Below.allocs W (.cells #[.int .i64 room, .slice p os.length c] 37)
  have HBX := Lib.hid hbx
  have hrow : (W.alloc (.cells #[.int .i64 room, .slice p os.length c] 37)).heap[W.heap.size]? = some (.cells #[.int .i64 room, .slice p os.length c] 37 (0, 0)) := heap_alloc_last _ _
  have hc1 : (W.alloc (.cells #[.int .i64 room, .slice p os.length c] 37)).cell? ⟨W.heap.size, 1, none⟩ = some (.slice p os.length c) := by rw [cell_of_row _ _ _ _ _ _ hrow]; rfl
  have HC1 := Lib.hid hc1
  clear hO hB hbl hos hun hbx hrow hc1
  by_cases hr : 1 ≤ room ∧ room ≤ 65536
  · obtain ⟨r, rfl⟩ : ∃ r : Nat, room = (r : Int) := ⟨room.toNat, by omega⟩
    have hr' : 1 ≤ r ∧ r ≤ 65536 := by omega
    have HR := Lib.hid hr'
    clear hr hroom
    go_enter Try.func4, Try.ntmps4
    go_wp2_with fail
    refine (new_any r _ HR.out).mono ?_
    rintro e w1 ⟨db, vs, rfl, hd1, hb1⟩
    generalize W.alloc (.cells #[.int .i64 (r : Int), .slice p os.length c] 37) = w0 at *
    have HBW1 := Lib.hid (HBX.out.trans (hb1.mono HBX.out.size))
    have HC2 := Lib.hid (cell_below HC1.out hb1)
    have HD1 := Lib.hid hd1
    have HSZ1 := Lib.hid hb1.size
    have hcc := HC2.out
    clear hd1 hb1 hr'
    go_wp2_with fail
    refine (small_any os p c rows w1 (HO.out.below HBW1.out) HBLL.out).mono ?_
    rintro e w2 ⟨sb, rfl, hb2⟩
    have HBL0 := Lib.hid (HBW1.out.trans (hb2.mono HBW1.out.size))
    have HD2 := Lib.hid (HD1.out.below hb2)
    have HC3 := Lib.hid (cell_below HC2.out hb2)
    have HSZ2 := Lib.hid (Nat.le_trans HSZ1.out hb2.size)
    clear hb2 hcc
    have hcc := HC3.out
    by_cases hl3 : b.length ≤ 300
    · have e1 : decide ((300 : Int) < (b.length : Int)) = false := decide_eq_false (by omega)
      have e2 : decide (300 < b.length) = false := decide_eq_false (by omega)
      cases sb with
      | false =>
        go_wp2_with fail
        refine (alive_any _).mono ?_
        rintro e w99 ⟨rfl, hb99⟩
        have HB99 := Lib.hid (HBL0.out.trans (hb99.mono HBL0.out.size))
        clear hb99
        go_wp2_with fail
        go_ret
        exact ⟨rfl, HB99.out⟩
      | true =>
        go_wp2_with fail
        refine (play_any W w2 HBL0.out HD2.out HBX.out.size HSZ2.out os p c rows HO.out (fun o ho => (HBLL.out o ho).1) 0 (fun f hf => by
          have hf' : f ∈ [FD.none, FD.none, FD.none] := hf
          have : f = FD.none := by simpa using hf'
          subst this
          exact Nat.le_refl _) (by have := HOS.out; omega)).mono ?_
        rintro e w3 ⟨rfl, vs3, hd3, ht3, hn3⟩
        obtain ⟨d1, hd1e⟩ : ∃ d1, d1 = playD (DD.new r) os := ⟨_, rfl⟩
        rw [← hd1e] at hd3
        have HD3 := Lib.hid hd3
        have HB3 := Lib.hid (Turns.belowW HBL0.out HD2.out HBX.out.size ht3)
        have HSZ3 := Lib.hid (Nat.le_trans HSZ2.out ht3.size)
        have hl1 : 1 < d1.fs.length := by rw [hd3.m3]; omega
        have HSY := Lib.hid (sync_in w3 HD3.out HSZ3.out 1 hl1 _ rfl)
        have HSL := Lib.hid (sync_leaves hd3.m3 hl1)
        clear hd1e hd3 ht3 hn3 hcc
        rcases sync_cases d1 with hs18 | ⟨hs0, hdn, hbd⟩
        · rw [hs18] at HSY
          clear hs18
          go_wp2_with fail
          refine (HSY.out).mono ?_
          rintro e w4 ⟨rfl, vs4, hd4, ht4, hn4⟩
          have HBL0 := Lib.hid (Turns.belowW HB3.out HD3.out HBX.out.size ht4)
          clear hd4 ht4 hn4
          go_wp2_with fail
          refine (alive_any _).mono ?_
          rintro e w99 ⟨rfl, hb99⟩
          have HB99 := Lib.hid (HBL0.out.trans (hb99.mono HBL0.out.size))
          clear hb99
          go_wp2_with fail
          go_ret
          exact ⟨rfl, HB99.out⟩
        · rw [hs0] at HSY
          obtain ⟨f2, h1, hf2, hk2, hst2, hdn2⟩ := HSL.out hdn hbd
          clear hs0 hdn hbd HSL
          go_wp2_with fail
          refine (HSY.out).mono ?_
          rintro e w4 ⟨rfl, vs4, hd4, ht4, hn4⟩
          generalize syncD d1 1 d1.fs[1] = d2 at *
          have HD4 := Lib.hid hd4
          have HB4 := Lib.hid (Turns.belowW HB3.out HD3.out HBX.out.size ht4)
          have HSZ4 := Lib.hid (Nat.le_trans HSZ3.out ht4.size)
          have HF2 := Lib.hid hf2
          have HKS := Lib.hid (keep_step hd4.m3 h1 hf2 hk2 hst2 hdn2 b units)
          have HRD := Lib.hid (read_in w4 HD4.out 1 h1)
          rw [hf2] at HRD
          have HST := Lib.hid hst2
          have HL1 := Lib.hid h1
          have hol : f2.now.length ≤ 65536 := by
            have h5 := HD4.out.used
            have h6 := HD4.out.room1
            have h7 := usedL_mem HL1.out
            have h8 := (HD4.out.each 1 _ _ (List.getElem?_eq_getElem (by rw [HD4.out.n3]; omega)) (List.getElem?_eq_getElem HL1.out)).ok.le
            rw [hf2] at h7 h8
            omega
          clear hd4 ht4 hn4 hf2 hk2 hst2 hdn2 HSY
          go_wp2_with fail
          refine (HRD.out).mono ?_
          rintro e w5 ⟨p5, c5, rfl, hr5, hb5⟩
          obtain ⟨p', c', hv, hbs⟩ := hr5.bs
          obtain ⟨rfl, -, rfl⟩ := Value.slice.inj hv
          have hcv := run_conv (P := Try.prog) (w := w5) 22 9 5 Try.underlying22 Try.underlying5 Try.underlying9 hbs
          have HB5 := Lib.hid (HB4.out.trans (hb5.mono HB4.out.size))
          have HD5 := Lib.hid (HD4.out.below hb5)
          have HSZ5 := Lib.hid (Nat.le_trans HSZ4.out hb5.size)
          have HAP := Lib.hid (append_in w5 HD5.out HSZ5.out 1 HL1.out f2 HF2.out pb b.length cb b (HBS.out.below HB5.out) (by omega) (by rw [HST.out]; decide))
          clear hb5 hr5 hbs hv HRD
          generalize hold : f2.now = old at *
          clear hold
          go_wp2_with fail
          refine (HAP.out).mono ?_
          rintro e w6 ⟨rfl, vs6, hd6, ht6, hn6⟩
          generalize hput : doE d2 1 f2 (.put b) = put at *
          generalize hdd3 : doD d2 1 f2 (.put b) = d3 at *
          have HD6 := Lib.hid hd6
          have HB6 := Lib.hid (Turns.belowW HB5.out HD5.out HBX.out.size ht6)
          have HSZ6 := Lib.hid (Nat.le_trans HSZ5.out ht6.size)
          have hba := Below.allocs w6 (.cells ([0, units].map (Value.int .i64)).toArray 3)
          have HDA6 := Lib.hid (HD6.out.below hba)
          have HC6 := Lib.hid (crash_any _ HDA6.out (Nat.le_trans HSZ6.out hba.size) [0, units] _ _ (ns_lit w6 [0, units] (show 2 ≤ 65536 by decide) (fun x hx => by
            have := HUN.out
            simp at hx
            rcases hx with rfl | rfl
            · omega
            · exact this)) (fun a ha => by
            obtain rfl := Option.some.inj ha
            exact ⟨fun hk => by have := (HD6.out.ownLt _ hk).2; exact absurd this (Nat.lt_irrefl _), by simp⟩))
          have HBA6 := Lib.hid (HB6.out.trans (hba.mono HB6.out.size))
          have HSA6 := Lib.hid (Nat.le_trans HSZ6.out hba.size)
          have hlit : (([0, units] : List Int).map (Value.int .i64)).toArray = #[.int .i64 0, .int .i64 units] := rfl
          rw [hlit] at HC6 HBA6 HSA6 HDA6
          clear hd6 ht6 hn6 hba hlit HAP hcv
          try clear hput hdd3
          go_wp2_with fail
          refine (HC6.out).mono ?_
          rintro e w7 ⟨rfl, vs7, hd7, ht7, hn7⟩
          obtain ⟨h4, hkp, hcase⟩ := HKS.out
          have hdown : (crashD [0, units] d3).down = false := rfl
          have hfuse : (crashD [0, units] d3).fuse = 0 := rfl
          generalize crashD [0, units] d3 = d4 at *
          have HD7 := Lib.hid hd7
          have HB7 := Lib.hid (Turns.belowW HBA6.out HDA6.out HBX.out.size ht7)
          have HSZ7 := Lib.hid (Nat.le_trans HSA6.out ht7.size)
          have HRD := Lib.hid (read_in w7 HD7.out 1 h4)
          have HKP := Lib.hid hkp
          have HDOWN := Lib.hid hdown
          have HFUSE := Lib.hid hfuse
          have HCASE := Lib.hid hcase
          have HL4 := Lib.hid h4
          have HKT := Lib.hid (kept_in w7 HD7.out 1 h4)
          clear hd7 ht7 hn7 hkp hdown hfuse hcase HC6 HKS
          rcases HCASE.out with ⟨hp, hnow⟩ | ⟨hp, hnow⟩
          · subst hp
            rw [hnow] at HRD
            clear HCASE hnow
            go_wp2_with fail
            refine (HRD.out).mono ?_
            rintro e w8 ⟨p8, c8, rfl, hr8, hb8⟩
            obtain ⟨p', c', hv, hbs⟩ := hr8.bs
            obtain ⟨rfl, -, rfl⟩ := Value.slice.inj hv
            have hcv := run_conv (P := Try.prog) (w := w8) 22 9 5 Try.underlying22 Try.underlying5 Try.underlying9 hbs
            have HBL0 := Lib.hid (HB7.out.trans (hb8.mono HB7.out.size))
            have HD8 := Lib.hid (HD7.out.below hb8)
            clear hb8 hr8 hbs hv HRD
            go_wp2_with fail
            refine (alive_any _).mono ?_
            rintro e w99 ⟨rfl, hb99⟩
            have HB99 := Lib.hid (HBL0.out.trans (hb99.mono HBL0.out.size))
            clear hb99
            go_wp2_with fail
            go_ret
            exact ⟨rfl, HB99.out⟩
          · rcases hp with hp | hp
            · subst hp
              rw [hnow] at HRD HKP
              clear HCASE hnow
              obtain ⟨⟨k1, k2⟩, k3, k4⟩ := keepN_eq b.length units
              have HKL := Lib.hid (keepN_le b.length units)
              have hku := HKL.out
              generalize keepN b.length units = u at *
              generalize hr1 : units.tmod ((b.length : Int) + 1) = r1 at *
              obtain ⟨nw, hnw⟩ : ∃ nw, old ++ b.take u = nw := ⟨_, rfl⟩
              have HNW := Lib.hid hnw
              rw [hnw] at HRD HKP
              clear hnw
              have hdz : ((b.length : Int) + 1 == 0) = false := beq_eq_false_iff_ne.2 (by omega)
              go_wp2_with fail
              refine (HRD.out).mono ?_
              rintro e w8 ⟨p8, c8, rfl, hr8, hb8⟩
              obtain ⟨p', c', hv, hbs⟩ := hr8.bs
              obtain ⟨rfl, -, rfl⟩ := Value.slice.inj hv
              have hcv := run_conv (P := Try.prog) (w := w8) 22 9 5 Try.underlying22 Try.underlying5 Try.underlying9 hbs
              have HBL0 := Lib.hid (HB7.out.trans (hb8.mono HB7.out.size))
              have HD8 := Lib.hid (HD7.out.below hb8)
              clear hb8 hr8 hbs hv HRD
              have hcvb := run_conv (P := Try.prog) (w := w8) 22 9 5 Try.underlying22 Try.underlying5 Try.underlying9 (Bs.upto (HBS.out.below HBL0.out) u HKL.out)
              have hnw := HNW.out
              have HDN := Lib.hid (down_any w8 HD8.out)
              have HFU := Lib.hid (fuse_any w8 HD8.out)
              have HKT := Lib.hid (kept_in w8 HD8.out 1 h4)
              rw [HDOWN.out] at HDN
              rw [HFUSE.out] at HFU
              rw [HKP.out] at HKT
              go_wp2_with fail
              refine (HDN.out).mono ?_
              rintro e w' ⟨rfl, rfl⟩
              go_wp2_with fail
              refine (HFU.out).mono ?_
              rintro e w' ⟨rfl, rfl⟩
              clear k1 k2 k3 k4 hr1 hdz hcvb hnw
              go_wp2_with fail
              refine (HKT.out).mono ?_
              rintro e w9 ⟨p9, c9, rfl, hr9, hb9⟩
              obtain ⟨p', c', hv, hbs⟩ := hr9.bs
              obtain ⟨rfl, -, rfl⟩ := Value.slice.inj hv
              have hcv9 := run_conv (P := Try.prog) (w := w9) 22 9 5 Try.underlying22 Try.underlying5 Try.underlying9 hbs
              have HBL0 := Lib.hid (HBL0.out.trans (hb9.mono HBL0.out.size))
              clear hb9 hr9 hbs hv HKT hcv
              go_wp2_with fail
              refine (alive_any _).mono ?_
              rintro e w99 ⟨rfl, hb99⟩
              have HB99 := Lib.hid (HBL0.out.trans (hb99.mono HBL0.out.size))
              clear hb99
              go_wp2_with fail
              go_ret
              exact ⟨rfl, HB99.out⟩
            · subst hp
              by_cases hb0 : b.length = 0
              · obtain rfl : b = [] := List.length_eq_zero_iff.1 hb0
                have hnow' : (d4.fs[1]'h4).now = old := by rw [hnow]; simp
                rw [hnow'] at HRD
                clear HCASE hnow hnow' hb0
                go_wp2_with fail
                refine (HRD.out).mono ?_
                rintro e w8 ⟨p8, c8, rfl, hr8, hb8⟩
                obtain ⟨p', c', hv, hbs⟩ := hr8.bs
                obtain ⟨rfl, -, rfl⟩ := Value.slice.inj hv
                have hcv := run_conv (P := Try.prog) (w := w8) 22 9 5 Try.underlying22 Try.underlying5 Try.underlying9 hbs
                have HBL0 := Lib.hid (HB7.out.trans (hb8.mono HB7.out.size))
                have HD8 := Lib.hid (HD7.out.below hb8)
                clear hb8 hr8 hbs hv HRD
                go_wp2_with fail
                refine (alive_any _).mono ?_
                rintro e w99 ⟨rfl, hb99⟩
                have HB99 := Lib.hid (HBL0.out.trans (hb99.mono HBL0.out.size))
                clear hb99
                go_wp2_with fail
                go_ret
                exact ⟨rfl, HB99.out⟩
              · have hb1 : ((b.length : Int) == 0) = false := beq_eq_false_iff_ne.2 (by omega)
                have hb2 : (b.length == 0) = false := beq_eq_false_iff_ne.2 hb0
                rw [hnow] at HRD HKP
                clear HCASE hnow hb0
                obtain ⟨⟨k1, k2⟩, k3, k4⟩ := keepN_eq b.length units
                have HKL := Lib.hid (keepN_le b.length units)
                have hku := HKL.out
                generalize keepN b.length units = u at *
                generalize hr1 : units.tmod ((b.length : Int) + 1) = r1 at *
                obtain ⟨nw, hnw⟩ : ∃ nw, old ++ b.take u = nw := ⟨_, rfl⟩
                have HNW := Lib.hid hnw
                rw [hnw] at HRD HKP
                clear hnw
                have hdz : ((b.length : Int) + 1 == 0) = false := beq_eq_false_iff_ne.2 (by omega)
                go_wp2_with fail
                refine (HRD.out).mono ?_
                rintro e w8 ⟨p8, c8, rfl, hr8, hb8⟩
                obtain ⟨p', c', hv, hbs⟩ := hr8.bs
                obtain ⟨rfl, -, rfl⟩ := Value.slice.inj hv
                have hcv := run_conv (P := Try.prog) (w := w8) 22 9 5 Try.underlying22 Try.underlying5 Try.underlying9 hbs
                have HBL0 := Lib.hid (HB7.out.trans (hb8.mono HB7.out.size))
                have HD8 := Lib.hid (HD7.out.below hb8)
                clear hb8 hr8 hbs hv HRD
                have hcvb := run_conv (P := Try.prog) (w := w8) 22 9 5 Try.underlying22 Try.underlying5 Try.underlying9 (Bs.upto (HBS.out.below HBL0.out) u HKL.out)
                have hnw := HNW.out
                have HDN := Lib.hid (down_any w8 HD8.out)
                have HFU := Lib.hid (fuse_any w8 HD8.out)
                have HKT := Lib.hid (kept_in w8 HD8.out 1 h4)
                rw [HDOWN.out] at HDN
                rw [HFUSE.out] at HFU
                rw [HKP.out] at HKT
                go_wp2_with fail
                refine (HDN.out).mono ?_
                rintro e w' ⟨rfl, rfl⟩
                go_wp2_with fail
                refine (HFU.out).mono ?_
                rintro e w' ⟨rfl, rfl⟩
                clear k1 k2 k3 k4 hr1 hdz hcvb hnw
                go_wp2_with fail
                refine (HKT.out).mono ?_
                rintro e w9 ⟨p9, c9, rfl, hr9, hb9⟩
                obtain ⟨p', c', hv, hbs⟩ := hr9.bs
                obtain ⟨rfl, -, rfl⟩ := Value.slice.inj hv
                have hcv9 := run_conv (P := Try.prog) (w := w9) 22 9 5 Try.underlying22 Try.underlying5 Try.underlying9 hbs
                have HBL0 := Lib.hid (HBL0.out.trans (hb9.mono HBL0.out.size))
                clear hb9 hr9 hbs hv HKT hcv
                go_wp2_with fail
                refine (alive_any _).mono ?_
                rintro e w99 ⟨rfl, hb99⟩
                have HB99 := Lib.hid (HBL0.out.trans (hb99.mono HBL0.out.size))
                clear hb99
                go_wp2_with fail
                go_ret
                exact ⟨rfl, HB99.out⟩
    · have e1 : decide ((300 : Int) < (b.length : Int)) = true := decide_eq_true (by omega)
      have e2 : decide (300 < b.length) = true := decide_eq_true (by omega)
      cases sb with
      | false =>
        go_wp2_with fail
        refine (alive_any _).mono ?_
        rintro e w99 ⟨rfl, hb99⟩
        have HB99 := Lib.hid (HBL0.out.trans (hb99.mono HBL0.out.size))
        clear hb99
        go_wp2_with fail
        go_ret
        exact ⟨rfl, HB99.out⟩
      | true =>
        go_wp2_with fail
        refine (alive_any _).mono ?_
        rintro e w99 ⟨rfl, hb99⟩
        have HB99 := Lib.hid (HBL0.out.trans (hb99.mono HBL0.out.size))
        clear hb99
        go_wp2_with fail
        go_ret
        exact ⟨rfl, HB99.out⟩
  · have hbad : room < 1 ∨ 65536 < room := by omega
    have HBAD := Lib.hid hbad
    clear hr hroom hbad
    go_enter Try.func4, Try.ntmps4
    go_wp2_with fail
    refine (new_bad room _ HBAD.out).mono ?_
    rintro e w1 ⟨rfl, rfl⟩
    go_wp2_with fail
    refine (small_any os p c rows _ (HO.out.below HBX.out) HBLL.out).mono ?_
    rintro e w2 ⟨sb, rfl, hb2⟩
    have HBL0 := Lib.hid (HBX.out.trans (hb2.mono HBX.out.size))
    clear hb2
    by_cases hl3 : b.length ≤ 300
    · have e1 : decide ((300 : Int) < (b.length : Int)) = false := decide_eq_false (by omega)
      have e2 : decide (300 < b.length) = false := decide_eq_false (by omega)
      cases sb with
      | false =>
        go_wp2_with fail
        refine (alive_any _).mono ?_
        rintro e w99 ⟨rfl, hb99⟩
        have HB99 := Lib.hid (HBL0.out.trans (hb99.mono HBL0.out.size))
        clear hb99
        go_wp2_with fail
        go_ret
        exact ⟨rfl, HB99.out⟩
      | true =>
        go_wp2_with fail
        refine (alive_any _).mono ?_
        rintro e w99 ⟨rfl, hb99⟩
        have HB99 := Lib.hid (HBL0.out.trans (hb99.mono HBL0.out.size))
        clear hb99
        go_wp2_with fail
        go_ret
        exact ⟨rfl, HB99.out⟩
    · have e1 : decide ((300 : Int) < (b.length : Int)) = true := decide_eq_true (by omega)
      have e2 : decide (300 < b.length) = true := decide_eq_true (by omega)
      cases sb with
      | false =>
        go_wp2_with fail
        refine (alive_any _).mono ?_
        rintro e w99 ⟨rfl, hb99⟩
        have HB99 := Lib.hid (HBL0.out.trans (hb99.mono HBL0.out.size))
        clear hb99
        go_wp2_with fail
        go_ret
        exact ⟨rfl, HB99.out⟩
      | true =>
        go_wp2_with fail
        refine (alive_any _).mono ?_
        rintro e w99 ⟨rfl, hb99⟩
        have HB99 := Lib.hid (HBL0.out.trans (hb99.mono HBL0.out.size))
        clear hb99
        go_wp2_with fail
        go_ret
        exact ⟨rfl, HB99.out⟩
end Go.Proofs.Ytlmlcedjhpfeiaa.Dk
