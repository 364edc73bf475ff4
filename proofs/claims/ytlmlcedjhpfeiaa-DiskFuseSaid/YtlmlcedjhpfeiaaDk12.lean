/- LAYER 18: the walk of DiskFuse, whole. Conditions: none. -/
import Derived.Test.YtlmlcedjhpfeiaaDk11
namespace Go.Proofs.Ytlmlcedjhpfeiaa.Dk
open Go.RowKit Go.Mir Go.Mir.Parts

theorem FuseR.next {W w w' : World} {F base db i : Nat} {vs : List FV} {d d' : DD} (hd : DAt w base db vs d) (hI : Inv F d' (i + 1)) (hb : W.heap.size ≤ base) (hw : Below W.heap.size W w) (hl : LeftD base db vs d' w w') (hbw : base ≤ w.heap.size) : FuseR W F base db (i + 1) w' := by
  obtain ⟨vs', hd', ht, _⟩ := hl
  exact ⟨vs', d', hd', hI, hb, Nat.le_trans hbw ht.size, Turns.belowW hw hd hb ht⟩
theorem tail_max (F i : Nat) (hi : i ≤ 100) (hF : F ≤ 100) : ∃ z : Nat, z = F - (i + 1) ∧ (if ((F : Int) - (i : Int) - 1) < 0 then (0 : Int) else ((F : Int) - (i : Int) - 1)) = (z : Int) := by
  refine ⟨_, rfl, ?_⟩
  split <;> omega
set_option maxRecDepth 100000 in
set_option maxHeartbeats 3200000 in
theorem law_fuse (n m : Nat) (hn : n < 256) (hm : m < 256) (p : Option Addr) (c : Nat) (l : List UInt8) (W : World) (hB : Bs W p l.length c l) :
    Calls Try.prog 3 #[.int .u8 (n : Int), .int .u8 (m : Int), .slice p l.length c] W fun e w' => e = .returned (.bool true) ∧ Below W.heap.size W w' := by
  have HBS := Lib.hid hB
  have hle := hB.le
  have hmax := hB.max
  obtain ⟨F, hF, hF1, hF2⟩ : ∃ F : Nat, (1 : Int) + (n : Int) % 20 = (F : Int) ∧ 1 ≤ F ∧ F ≤ 20 := ⟨1 + n % 20, by omega, by omega, by omega⟩
  obtain ⟨fi, hfi, hfi3⟩ : ∃ fi : Nat, (m : Int) % 3 = (fi : Int) ∧ fi < 3 := ⟨m % 3, by omega, by omega⟩
  have HF := Lib.hid hF
  have HFI := Lib.hid hfi
  clear hB hF hfi
  go_enter Try.func3, Try.ntmps3
  go_wp2_with fail
  refine (new_any 65536 W ⟨by omega, by omega⟩).mono ?_
  rintro e w1 ⟨db, vs, rfl, hd1, hb1⟩
  have HD1 := Lib.hid hd1
  have HB1 := Lib.hid hb1
  clear hd1 hb1
  go_wp2_with fail
  rw [HF.out]
  refine (arm_any w1 HD1.out (F : Int) (by omega)).mono ?_
  rintro e w2 ⟨rfl, hd2, ht2⟩
  have HR2 : Hid (FuseR W F W.heap.size db 0 w2) := by
    refine ⟨vs, _, hd2, ⟨rfl, Nat.le_refl _, fun f hf => ?_, .inl ⟨by omega, rfl, by show (F : Int).toNat = F - 0; omega⟩⟩, Nat.le_refl _, Nat.le_trans HB1.out.size ht2.size, Turns.belowW HB1.out HD1.out (Nat.le_refl _) (ht2.imp (fun k _ hk => .inl hk))⟩
    have : f = FD.none := by
      have hf' : f ∈ [FD.none, FD.none, FD.none] := hf
      simpa using hf'
    subst this
    exact Nat.le_refl _
  clear hd2 ht2 HD1 HB1 HF
  clear w1
  go_wp2_with fail
  rw [HFI.out]
  clear HFI
  go_loopw [11] (fun j wr => ∃ i : Nat, i ≤ l.length ∧ i ≤ 100 ∧ j = .int .i64 i ∧ FuseR W F W.heap.size db i wr) (fun j _ => l.length - (intOf j).toNat)
  case atStart => exact ⟨0, by omega, by omega, rfl, HR2.out⟩
  case round =>
    obtain ⟨i, hi, hi100, rfl, vs1, d1, hd1, hI, hbb, hbw, hB1⟩ := hrel
    have HD1 := Lib.hid hd1
    have HI := Lib.hid hI
    have HBW := Lib.hid hbw
    have HB1 := Lib.hid hB1
    have hfl : fi < d1.fs.length := by rw [hd1.m3]; exact hfi3
    have HFL := Lib.hid hfl
    clear hd1 hI hbb hbw hB1
    by_cases hlt : i < l.length ∧ i < 100
    · obtain ⟨hlt1, hlt2⟩ := hlt
      have e1 : decide ((i : Int) < (l.length : Int)) = true := decide_eq_true (by omega)
      have e2 : decide ((i : Int) < 100) = true := decide_eq_true (by omega)
      have e3 : decide (i < l.length) = true := decide_eq_true hlt1
      have e4 : decide (i < 100) = true := decide_eq_true hlt2
      obtain ⟨g, o, rfl⟩ := HBS.out.addr (by omega) (by omega)
      have hcx : wr.cell? ⟨g, o + i, none⟩ = some (.int .u8 ((l[i]'hlt1).toNat : Int)) := cell_below (HBS.out.byte hlt1) HB1.out
      generalize (l[i]'hlt1).toNat = bx at *
      obtain ⟨r3, hr3, hr33⟩ : ∃ r3 : Nat, (bx : Int) % 3 = (r3 : Int) ∧ r3 < 3 := ⟨bx % 3, by omega, by omega⟩
      have hr3t : (bx : Int).tmod 3 = (r3 : Int) := by rw [Int.tmod_eq_emod_of_nonneg (by omega)]; exact hr3
      have hr3w : IntKind.u8.wrap (r3 : Int) = (r3 : Int) := IntWalk.u8_in _ (by omega)
      have HFD : Hid (∃ f, d1.fs[fi]'HFL.out = f ∧ f.Ok ∧ f.steps.length + 1 ≤ 1099511627776) := by
        have hv : fi < vs1.length := by have := HD1.out.n3; omega
        refine ⟨_, rfl, (HD1.out.each fi _ _ (List.getElem?_eq_getElem hv) (List.getElem?_eq_getElem HFL.out)).ok, ?_⟩
        have := HI.out.few _ (List.getElem_mem HFL.out)
        omega
      obtain ⟨f, hf, hfok, hffew⟩ := HFD.out
      have HFE := Lib.hid hf
      have HOK := Lib.hid hfok
      clear hf hfok HFD
      by_cases h0 : r3 = 0
      · have hb0 : ((r3 : Int) == 0) = true := by rw [beq_iff_eq]; omega
        have hba := Below.allocs wr (.cells (bytesV [1]).toArray 5)
        have HDA := Lib.hid (HD1.out.below hba)
        have HAP := Lib.hid (append_in _ HDA.out (Nat.le_trans HBW.out hba.size) fi HFL.out f HFE.out _ _ _ [1] (bs_lit wr [1] (by decide)) (by decide) hffew)
        have HBA := Lib.hid (HB1.out.trans (hba.mono HB1.out.size))
        have HBWA : Hid (W.heap.size ≤ (wr.alloc (.cells (bytesV [1]).toArray 5)).heap.size) := Nat.le_trans HBW.out hba.size
        have hlit : (bytesV [1]).toArray = #[.int .u8 1] := rfl
        have HIN := Lib.hid (do_inv (s := .put [1]) HI.out hi100 HFL.out HFE.out (by show f.now.length + 1 ≤ _; have := HOK.out.le; omega))
        rw [hlit] at HAP HBA HDA HBWA
        clear hba hlit h0
        go_wp2_with fail
        refine (HAP.out).mono ?_
        rintro e wy ⟨rfl, hl9⟩
        rw [HIN.out.2]
        have HFR : Hid (FuseR W F W.heap.size db (i + 1) wy) := FuseR.next HDA.out HIN.out.1 (Nat.le_refl _) HBA.out hl9 HBWA.out
        clear hl9 hcx HAP
        obtain ⟨vs2, d2, hd2, hI2, hbb2, hbw2, hB2⟩ := HFR.out
        have HD2 := Lib.hid hd2
        have hw0 : IntKind.i64.wrap ((i : Int) + 1) = (i : Int) + 1 := IntWalk.i64_in _ (by omega)
        obtain ⟨x1, hx1⟩ : ∃ x1 : Int, (F : Int) - (i : Int) = x1 := ⟨_, rfl⟩
        have hw1 : IntKind.i64.wrap ((F : Int) - (i : Int)) = x1 := by rw [hx1]; exact IntWalk.i64_in _ (by omega)
        obtain ⟨x2, hx2⟩ : ∃ x2 : Int, x1 - 1 = x2 := ⟨_, rfl⟩
        have hw2 : IntKind.i64.wrap (x1 - 1) = x2 := by rw [hx2]; exact IntWalk.i64_in _ (by omega)
        have hfu : d2.fuse = F - (i + 1) := by
          rcases hI2.st with ⟨_, _, h3⟩ | ⟨_, _, h3⟩
          · exact h3
          · omega
        have hmx : (if x2 < 0 then (0 : Int) else x2) = (d2.fuse : Int) := by rw [hfu]; split <;> omega
        by_cases hh : F ≤ i + 1
        · have hv : dnE F i = 18 := by unfold dnE; rw [if_pos hh]
          have hdn : d2.down = true := by
            rcases hI2.st with ⟨h1, _, _⟩ | ⟨_, h2, _⟩
            · omega
            · exact h2
          have e5 : decide ((F : Int) ≤ (i : Int) + 1) = true := decide_eq_true (by omega)
          have e6 : decide (F ≤ i + 1) = true := decide_eq_true hh
          have HDN := Lib.hid (down_any wy HD2.out)
          have HFU := Lib.hid (fuse_any wy HD2.out)
          rw [hdn] at HDN
          rw [hv]
          generalize d2.fuse = fz at *
          clear hv hdn hd2 hI2 hbb2 hbw2 hB2 hh hfu hx1 hx2
          go_wp2_with fail
          refine (HDN.out).mono ?_
          rintro e w' ⟨rfl, rfl⟩
          go_wp2_with fail
          refine (HFU.out).mono ?_
          rintro e w' ⟨rfl, rfl⟩
          go_wp2_with fail
          go_roundw
          case rel => exact ⟨i + 1, by omega, by omega, by go_num, HFR.out⟩
          case measure => simp [intOf]; omega
        · have hv : dnE F i = 0 := by unfold dnE; rw [if_neg hh]
          have hdn : d2.down = false := by
            rcases hI2.st with ⟨_, h2, _⟩ | ⟨h1, _, _⟩
            · exact h2
            · omega
          have e5 : decide ((F : Int) ≤ (i : Int) + 1) = false := decide_eq_false (by omega)
          have e6 : decide (F ≤ i + 1) = false := decide_eq_false hh
          have HDN := Lib.hid (down_any wy HD2.out)
          have HFU := Lib.hid (fuse_any wy HD2.out)
          rw [hdn] at HDN
          rw [hv]
          generalize d2.fuse = fz at *
          clear hv hdn hd2 hI2 hbb2 hbw2 hB2 hh hfu hx1 hx2
          go_wp2_with fail
          refine (HDN.out).mono ?_
          rintro e w' ⟨rfl, rfl⟩
          go_wp2_with fail
          refine (HFU.out).mono ?_
          rintro e w' ⟨rfl, rfl⟩
          go_wp2_with fail
          go_roundw
          case rel => exact ⟨i + 1, by omega, by omega, by go_num, HFR.out⟩
          case measure => simp [intOf]; omega
      · have hb0 : ((r3 : Int) == 0) = false := by rw [beq_eq_false_iff_ne]; omega
        by_cases h1 : r3 = 1
        · have hb1 : ((r3 : Int) == 1) = true := by rw [beq_iff_eq]; omega
          have HCT := Lib.hid (cut_in wr HD1.out HBW.out fi HFL.out f HFE.out 0 (Nat.zero_le _) hffew)
          have HIN := Lib.hid (do_inv (s := .cut 0) HI.out hi100 HFL.out HFE.out (by show 0 ≤ _; omega))
          clear h0 h1
          go_wp2_with fail
          refine (HCT.out).mono ?_
          rintro e wy ⟨rfl, hl9⟩
          rw [HIN.out.2]
          have HFR : Hid (FuseR W F W.heap.size db (i + 1) wy) := FuseR.next HD1.out HIN.out.1 (Nat.le_refl _) HB1.out hl9 HBW.out
          clear hl9 hcx HCT
          obtain ⟨vs2, d2, hd2, hI2, hbb2, hbw2, hB2⟩ := HFR.out
          have HD2 := Lib.hid hd2
          have hw0 : IntKind.i64.wrap ((i : Int) + 1) = (i : Int) + 1 := IntWalk.i64_in _ (by omega)
          obtain ⟨x1, hx1⟩ : ∃ x1 : Int, (F : Int) - (i : Int) = x1 := ⟨_, rfl⟩
          have hw1 : IntKind.i64.wrap ((F : Int) - (i : Int)) = x1 := by rw [hx1]; exact IntWalk.i64_in _ (by omega)
          obtain ⟨x2, hx2⟩ : ∃ x2 : Int, x1 - 1 = x2 := ⟨_, rfl⟩
          have hw2 : IntKind.i64.wrap (x1 - 1) = x2 := by rw [hx2]; exact IntWalk.i64_in _ (by omega)
          have hfu : d2.fuse = F - (i + 1) := by
            rcases hI2.st with ⟨_, _, h3⟩ | ⟨_, _, h3⟩
            · exact h3
            · omega
          have hmx : (if x2 < 0 then (0 : Int) else x2) = (d2.fuse : Int) := by rw [hfu]; split <;> omega
          by_cases hh : F ≤ i + 1
          · have hv : dnE F i = 18 := by unfold dnE; rw [if_pos hh]
            have hdn : d2.down = true := by
              rcases hI2.st with ⟨h1, _, _⟩ | ⟨_, h2, _⟩
              · omega
              · exact h2
            have e5 : decide ((F : Int) ≤ (i : Int) + 1) = true := decide_eq_true (by omega)
            have e6 : decide (F ≤ i + 1) = true := decide_eq_true hh
            have HDN := Lib.hid (down_any wy HD2.out)
            have HFU := Lib.hid (fuse_any wy HD2.out)
            rw [hdn] at HDN
            rw [hv]
            generalize d2.fuse = fz at *
            clear hv hdn hd2 hI2 hbb2 hbw2 hB2 hh hfu hx1 hx2
            go_wp2_with fail
            refine (HDN.out).mono ?_
            rintro e w' ⟨rfl, rfl⟩
            go_wp2_with fail
            refine (HFU.out).mono ?_
            rintro e w' ⟨rfl, rfl⟩
            go_wp2_with fail
            go_roundw
            case rel => exact ⟨i + 1, by omega, by omega, by go_num, HFR.out⟩
            case measure => simp [intOf]; omega
          · have hv : dnE F i = 0 := by unfold dnE; rw [if_neg hh]
            have hdn : d2.down = false := by
              rcases hI2.st with ⟨_, h2, _⟩ | ⟨h1, _, _⟩
              · exact h2
              · omega
            have e5 : decide ((F : Int) ≤ (i : Int) + 1) = false := decide_eq_false (by omega)
            have e6 : decide (F ≤ i + 1) = false := decide_eq_false hh
            have HDN := Lib.hid (down_any wy HD2.out)
            have HFU := Lib.hid (fuse_any wy HD2.out)
            rw [hdn] at HDN
            rw [hv]
            generalize d2.fuse = fz at *
            clear hv hdn hd2 hI2 hbb2 hbw2 hB2 hh hfu hx1 hx2
            go_wp2_with fail
            refine (HDN.out).mono ?_
            rintro e w' ⟨rfl, rfl⟩
            go_wp2_with fail
            refine (HFU.out).mono ?_
            rintro e w' ⟨rfl, rfl⟩
            go_wp2_with fail
            go_roundw
            case rel => exact ⟨i + 1, by omega, by omega, by go_num, HFR.out⟩
            case measure => simp [intOf]; omega
        · have hb1 : ((r3 : Int) == 1) = false := by rw [beq_eq_false_iff_ne]; omega
          have hb2 : ((r3 : Int) == 2) = true := by rw [beq_iff_eq]; omega
          have HSY := Lib.hid (sync_in wr HD1.out HBW.out fi HFL.out f HFE.out)
          have HIN := Lib.hid (sync_inv HI.out HFL.out HFE.out (by show (someU f.kept f.steps _).length ≤ _; exact HOK.out.all _))
          clear h0 h1
          go_wp2_with fail
          refine (HSY.out).mono ?_
          rintro e wy ⟨rfl, hl9⟩
          rw [HIN.out.2]
          have HFR : Hid (FuseR W F W.heap.size db (i + 1) wy) := FuseR.next HD1.out HIN.out.1 (Nat.le_refl _) HB1.out hl9 HBW.out
          clear hl9 hcx HSY
          obtain ⟨vs2, d2, hd2, hI2, hbb2, hbw2, hB2⟩ := HFR.out
          have HD2 := Lib.hid hd2
          have hw0 : IntKind.i64.wrap ((i : Int) + 1) = (i : Int) + 1 := IntWalk.i64_in _ (by omega)
          obtain ⟨x1, hx1⟩ : ∃ x1 : Int, (F : Int) - (i : Int) = x1 := ⟨_, rfl⟩
          have hw1 : IntKind.i64.wrap ((F : Int) - (i : Int)) = x1 := by rw [hx1]; exact IntWalk.i64_in _ (by omega)
          obtain ⟨x2, hx2⟩ : ∃ x2 : Int, x1 - 1 = x2 := ⟨_, rfl⟩
          have hw2 : IntKind.i64.wrap (x1 - 1) = x2 := by rw [hx2]; exact IntWalk.i64_in _ (by omega)
          have hfu : d2.fuse = F - (i + 1) := by
            rcases hI2.st with ⟨_, _, h3⟩ | ⟨_, _, h3⟩
            · exact h3
            · omega
          have hmx : (if x2 < 0 then (0 : Int) else x2) = (d2.fuse : Int) := by rw [hfu]; split <;> omega
          by_cases hh : F ≤ i + 1
          · have hv : dnE F i = 18 := by unfold dnE; rw [if_pos hh]
            have hdn : d2.down = true := by
              rcases hI2.st with ⟨h1, _, _⟩ | ⟨_, h2, _⟩
              · omega
              · exact h2
            have e5 : decide ((F : Int) ≤ (i : Int) + 1) = true := decide_eq_true (by omega)
            have e6 : decide (F ≤ i + 1) = true := decide_eq_true hh
            have HDN := Lib.hid (down_any wy HD2.out)
            have HFU := Lib.hid (fuse_any wy HD2.out)
            rw [hdn] at HDN
            rw [hv]
            generalize d2.fuse = fz at *
            clear hv hdn hd2 hI2 hbb2 hbw2 hB2 hh hfu hx1 hx2
            go_wp2_with fail
            refine (HDN.out).mono ?_
            rintro e w' ⟨rfl, rfl⟩
            go_wp2_with fail
            refine (HFU.out).mono ?_
            rintro e w' ⟨rfl, rfl⟩
            go_wp2_with fail
            go_roundw
            case rel => exact ⟨i + 1, by omega, by omega, by go_num, HFR.out⟩
            case measure => simp [intOf]; omega
          · have hv : dnE F i = 0 := by unfold dnE; rw [if_neg hh]
            have hdn : d2.down = false := by
              rcases hI2.st with ⟨_, h2, _⟩ | ⟨h1, _, _⟩
              · exact h2
              · omega
            have e5 : decide ((F : Int) ≤ (i : Int) + 1) = false := decide_eq_false (by omega)
            have e6 : decide (F ≤ i + 1) = false := decide_eq_false hh
            have HDN := Lib.hid (down_any wy HD2.out)
            have HFU := Lib.hid (fuse_any wy HD2.out)
            rw [hdn] at HDN
            rw [hv]
            generalize d2.fuse = fz at *
            clear hv hdn hd2 hI2 hbb2 hbw2 hB2 hh hfu hx1 hx2
            go_wp2_with fail
            refine (HDN.out).mono ?_
            rintro e w' ⟨rfl, rfl⟩
            go_wp2_with fail
            refine (HFU.out).mono ?_
            rintro e w' ⟨rfl, rfl⟩
            go_wp2_with fail
            go_roundw
            case rel => exact ⟨i + 1, by omega, by omega, by go_num, HFR.out⟩
            case measure => simp [intOf]; omega
    · by_cases hl1 : i < l.length
      · have e1 : decide ((i : Int) < (l.length : Int)) = true := decide_eq_true (by omega)
        have e2 : decide ((i : Int) < 100) = false := decide_eq_false (by omega)
        have e3 : decide (i < l.length) = true := decide_eq_true hl1
        have e4 : decide (i < 100) = false := decide_eq_false (by omega)
        have HCR := Lib.hid (crash_any wr HD1.out HBW.out [] none 0 ⟨Sl.nil _ _, rfl, fun x hx => by simp at hx⟩ (fun a ha => by cases ha))
        go_wp2_with fail
        refine (HCR.out).mono ?_
        rintro e w5 ⟨rfl, vs5, hd5, ht5, hn5⟩
        have HD5 := Lib.hid hd5
        have HB5 := Lib.hid (Turns.belowW HB1.out HD1.out (Nat.le_refl _) ht5)
        have HL5 : Hid (fi < (crashD [] d1).fs.length) := by show _ < _; rw [HD5.out.m3]; exact hfi3
        have HDN := Lib.hid (down_any w5 HD5.out)
        have HNB : Hid (∃ f, (crashD [] d1).fs[fi]'HL5.out = f ∧ f.Ok ∧ f.steps.length + 1 ≤ 1099511627776 ∧ doE (crashD [] d1) fi f (.put []) = 0) := by
          have hv : fi < vs5.length := by have := HD5.out.n3; omega
          have hok := (HD5.out.each fi _ _ (List.getElem?_eq_getElem hv) (List.getElem?_eq_getElem HL5.out)).ok
          have hst : ∀ f ∈ (crashD [] d1).fs, f.steps = [] := by
            intro f hf
            have h3 := HD1.out.m3
            obtain ⟨fs, room, fuse, down⟩ := d1
            obtain ⟨a, b, c, rfl⟩ := list3 h3
            have hf' : f ∈ [a.settle (crU [] 0 a), b.settle (crU [] 1 b), c.settle (crU [] 2 c)] := hf
            simp at hf'
            rcases hf' with rfl | rfl | rfl <;> rfl
          refine ⟨_, rfl, hok, by rw [hst _ (List.getElem_mem HL5.out)]; decide, ?_⟩
          have hm := usedL_mem HL5.out
          have hu := HD5.out.used
          have hnb : ¬ (crashD [] d1).room < usedL (crashD [] d1).fs - ((crashD [] d1).fs[fi]'HL5.out).need + max ((crashD [] d1).fs[fi]'HL5.out).need ((St.put []).size ((crashD [] d1).fs[fi]'HL5.out).now.length) := by
            have h1 : (St.put []).size ((crashD [] d1).fs[fi]'HL5.out).now.length = ((crashD [] d1).fs[fi]'HL5.out).now.length := rfl
            have := hok.le
            rw [h1]
            omega
          rw [(do_fits (i := fi) (s := .put []) rfl hnb).2]
          rfl
        obtain ⟨f5, hf5, hok5, hfew5, hde5⟩ := HNB.out
        have HAP := Lib.hid (append_in w5 HD5.out HB5.out.size fi HL5.out f5 hf5 none 0 0 [] (Sl.nil _ _) (by omega) hfew5)
        have HDE := Lib.hid hde5
        have HDN0 : Hid ((crashD [] d1).down = false) := rfl
        rw [HDN0.out] at HDN
        clear hd5 ht5 hn5 hf5 hok5 hfew5 hde5 HNB HCR
        go_wp2_with fail
        refine (HDN.out).mono ?_
        rintro e w' ⟨rfl, rfl⟩
        go_wp2_with fail
        refine (HAP.out).mono ?_
        rintro e w6 ⟨rfl, hl6⟩
        rw [HDE.out]
        obtain ⟨vs6, hd6, ht6, _⟩ := hl6
        have HB6 := Lib.hid (Turns.belowW HB5.out HD5.out (Nat.le_refl _) ht6)
        clear hd6 ht6
        go_wp2_with fail
        refine (alive_any _).mono ?_
        rintro e w7 ⟨rfl, hb7⟩
        have HB7 := Lib.hid (HB6.out.trans (hb7.mono HB6.out.size))
        clear hb7
        go_wp2_with fail
        go_ret
        exact ⟨rfl, HB7.out⟩
      · have e1 : decide ((i : Int) < (l.length : Int)) = false := decide_eq_false (by omega)
        have e3 : decide (i < l.length) = false := decide_eq_false hl1
        have HCR := Lib.hid (crash_any wr HD1.out HBW.out [] none 0 ⟨Sl.nil _ _, rfl, fun x hx => by simp at hx⟩ (fun a ha => by cases ha))
        go_wp2_with fail
        refine (HCR.out).mono ?_
        rintro e w5 ⟨rfl, vs5, hd5, ht5, hn5⟩
        have HD5 := Lib.hid hd5
        have HB5 := Lib.hid (Turns.belowW HB1.out HD1.out (Nat.le_refl _) ht5)
        have HL5 : Hid (fi < (crashD [] d1).fs.length) := by show _ < _; rw [HD5.out.m3]; exact hfi3
        have HDN := Lib.hid (down_any w5 HD5.out)
        have HNB : Hid (∃ f, (crashD [] d1).fs[fi]'HL5.out = f ∧ f.Ok ∧ f.steps.length + 1 ≤ 1099511627776 ∧ doE (crashD [] d1) fi f (.put []) = 0) := by
          have hv : fi < vs5.length := by have := HD5.out.n3; omega
          have hok := (HD5.out.each fi _ _ (List.getElem?_eq_getElem hv) (List.getElem?_eq_getElem HL5.out)).ok
          have hst : ∀ f ∈ (crashD [] d1).fs, f.steps = [] := by
            intro f hf
            have h3 := HD1.out.m3
            obtain ⟨fs, room, fuse, down⟩ := d1
            obtain ⟨a, b, c, rfl⟩ := list3 h3
            have hf' : f ∈ [a.settle (crU [] 0 a), b.settle (crU [] 1 b), c.settle (crU [] 2 c)] := hf
            simp at hf'
            rcases hf' with rfl | rfl | rfl <;> rfl
          refine ⟨_, rfl, hok, by rw [hst _ (List.getElem_mem HL5.out)]; decide, ?_⟩
          have hm := usedL_mem HL5.out
          have hu := HD5.out.used
          have hnb : ¬ (crashD [] d1).room < usedL (crashD [] d1).fs - ((crashD [] d1).fs[fi]'HL5.out).need + max ((crashD [] d1).fs[fi]'HL5.out).need ((St.put []).size ((crashD [] d1).fs[fi]'HL5.out).now.length) := by
            have h1 : (St.put []).size ((crashD [] d1).fs[fi]'HL5.out).now.length = ((crashD [] d1).fs[fi]'HL5.out).now.length := rfl
            have := hok.le
            rw [h1]
            omega
          rw [(do_fits (i := fi) (s := .put []) rfl hnb).2]
          rfl
        obtain ⟨f5, hf5, hok5, hfew5, hde5⟩ := HNB.out
        have HAP := Lib.hid (append_in w5 HD5.out HB5.out.size fi HL5.out f5 hf5 none 0 0 [] (Sl.nil _ _) (by omega) hfew5)
        have HDE := Lib.hid hde5
        have HDN0 : Hid ((crashD [] d1).down = false) := rfl
        rw [HDN0.out] at HDN
        clear hd5 ht5 hn5 hf5 hok5 hfew5 hde5 HNB HCR
        go_wp2_with fail
        refine (HDN.out).mono ?_
        rintro e w' ⟨rfl, rfl⟩
        go_wp2_with fail
        refine (HAP.out).mono ?_
        rintro e w6 ⟨rfl, hl6⟩
        rw [HDE.out]
        obtain ⟨vs6, hd6, ht6, _⟩ := hl6
        have HB6 := Lib.hid (Turns.belowW HB5.out HD5.out (Nat.le_refl _) ht6)
        clear hd6 ht6
        go_wp2_with fail
        refine (alive_any _).mono ?_
        rintro e w7 ⟨rfl, hb7⟩
        have HB7 := Lib.hid (HB6.out.trans (hb7.mono HB6.out.size))
        clear hb7
        go_wp2_with fail
        go_ret
        exact ⟨rfl, HB7.out⟩
end Go.Proofs.Ytlmlcedjhpfeiaa.Dk
