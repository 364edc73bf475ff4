/- THE WALK OF CALLS PLAYED. Conditions: none. -/
import Derived.Test.YtlmlcedjhpfeiaaDkPlay
import Derived.Test.YtlmlcedjhpfeiaaDk10
namespace Go.Proofs.Ytlmlcedjhpfeiaa.Dk
open Go.RowKit Go.Mir Go.Mir.Parts

set_option maxRecDepth 100000 in
set_option maxHeartbeats 3200000 in
theorem play_any {base db : Nat} {vs : List FV} {d : DD} (W w : World) (hW : Below W.heap.size W w) (hd : DAt w base db vs d) (hb : W.heap.size ≤ base) (hbase : base ≤ w.heap.size) (os : List DOp) (p : Option Addr) (c : Nat) (rows : List (List Value)) (h : DOps W p os.length c os rows)
    (hbl : ∀ o ∈ os, o.b.length ≤ 140737488355328) (N : Nat) (hN : FewD d N) (hfew : N + os.length + 1 ≤ 4398046511104) :
    Calls Try.prog 18 #[.pointer (some ⟨db, 0, none⟩), .slice p os.length c] w fun e w' => e = .returned (.tuple #[]) ∧ LeftD base db vs (playD d os) w w' := by
  obtain ⟨Z, hz, hZ⟩ := zDOp
  have HZZ := Lib.hid hZ
  have H := Lib.hid h
  have HD := Lib.hid hd
  have HW := Lib.hid hW
  have HWB := Lib.hid hb
  have HBASE := Lib.hid hbase
  have HFEW := Lib.hid hN
  have HFN := Lib.hid hfew
  have HSUM := Lib.hid hbl
  have hle := h.rs.sl.le
  have hmax := h.rs.sl.max
  clear h hZ hd hW hb hbase hN hfew hbl
  go_enter Try.func18, Try.ntmps18
  go_wp2_with fail
  go_loopw [8] (fun j wr => ∃ k : Nat, k ≤ os.length ∧ j = .int .i64 k ∧ LeftD base db vs (playD d (os.take k)) w wr) (fun j _ => os.length - (intOf j).toNat)
  case atStart => exact ⟨0, by omega, rfl, vs, by rw [List.take_zero]; exact HD.out, Turns.refl _ _, fun k hk => .inl hk⟩
  case round =>
    obtain ⟨k, hk, rfl, hl0⟩ := hrel
    have HL0 := Lib.hid hl0
    clear hl0
    by_cases hlt : k < os.length
    · have hdl : decide ((k : Int) < (os.length : Int)) = true := decide_eq_true (by omega)
      have hdl2 : decide (k < os.length) = true := decide_eq_true hlt
      obtain ⟨b, o, rfl⟩ := H.out.rs.sl.addr (by omega) (by omega)
      obtain ⟨vs1, hd1, ht1, hn1⟩ := HL0.out
      have hbw := Turns.belowW HW.out HD.out HWB.out ht1
      have HPT := Lib.hid (playD_take os d k hlt)
      have HBL : Hid ((os[k]).b.length ≤ 140737488355328) := HSUM.out _ (List.getElem_mem hlt)
      obtain ⟨pb, cb, pu, cu, hbs, hns, hrg⟩ := H.out.at k hlt
      have hkr : k < rows.length := by rw [H.out.rs.count]; exact hlt
      have hat := H.out.each k _ os[k] (List.getElem?_eq_getElem hkr) (List.getElem?_eq_getElem hlt)
      have HNB := Lib.hid hat.nB
      have HULT := Lib.hid hns.lt
      have HRG := Lib.hid (range_below hrg hbw)
      have HFK : Hid (∀ f ∈ (playD d (os.take k)).fs, f.steps.length + 1 ≤ 4398046511104) := fun f hf => by
        have h1 := FewD.playD (os.take k) HFEW.out f hf
        rw [List.length_take] at h1
        have h2 := HFN.out
        omega
      have HBX := Lib.hid hbw
      have HBS0 := Lib.hid hbs
      have HNS0 := Lib.hid hns
      have HD1 := Lib.hid hd1
      have HT1 := Lib.hid ht1
      have HN1 := Lib.hid hn1
      clear hbs hns hrg hd1 ht1 hn1 hbw hat HL0
      generalize os[k] = oo at *
      obtain ⟨A, hA⟩ : ∃ A, A = dopA oo pb cb pu cu := ⟨_, rfl⟩
      have HOS : Hid (A.size = 5) := by show _ = _; rw [hA]; rfl
      have HOO : Hid (A.all (·.oneCell') = true) := by show _ = _; rw [hA]; exact dopA_one _ _ _ _ _
      have HOL : Hid (A.toList.length = 5) := by show _ = _; rw [Array.length_toList]; exact HOS.out
      have HNW := Lib.hid (box_new wr Z 54)
      have hbr := box_row wr Z A 54
      have HBB := Lib.hid (box_below wr Z A 54)
      rw [hA] at hbr
      obtain ⟨hc0, hc1, hc2, hc3, hc4⟩ := dopA_cell hbr
      rw [← hA] at hc0 hc1 hc2 hc3 hc4 HRG
      clear hbr hA
      go_upto_region 3 with (first
        | ((with_reducible refine wpAt 11 ?_); refine wpList_load_mid rfl 54 _ rfl b (o + k * 5) rfl A.toList _ HRG.out Try.underlying54 rfl (infoDOp _ HOL.out) ?_)
        | ((with_reducible refine wpStoreAt 5 ?_); refine wpList_store_row rfl 54 _ _ rfl wr.heap.size A rfl rfl 54 Z HNW.out (infoDOp _ HOS.out) (HZZ.out.trans HOS.out.symm) HOO.out ?_))
      generalize (wr.alloc (.cells Z 54)).setRow wr.heap.size A = w3 at *
      have HD3 := Lib.hid (HD1.out.below HBB.out)
      have HB3 : Hid (base ≤ w3.heap.size) := Nat.le_trans HBASE.out (Nat.le_trans HT1.out.size HBB.out.size)
      have HX3 := Lib.hid (HBX.out.trans (HBB.out.mono HBX.out.size))
      have HBS := Lib.hid (HBS0.out.below HX3.out)
      have HNS := Lib.hid (HNS0.out.below HX3.out)
      clear HNW HRG HOS HOO HOL HBS0 HNS0
      by_cases h0 : oo.kind = 0
      · have HOD : Hid (opD (playD d (os.take k)) oo = putD (playD d (os.take k)) oo.file oo.b) := by show _ = _; unfold opD; rw [if_pos h0]
        rw [h0] at hc0
        have HC := Lib.hid (append_all w3 HD3.out HB3.out oo.file pb oo.b.length cb oo.b HBS.out HBL.out HFK.out)
        clear h0
        go_wp2_with fail
        refine (HC.out).mono ?_
        rintro e w4 ⟨⟨x, rfl⟩, hl⟩
        have HNX : Hid (LeftD base db vs (playD d (os.take (k + 1))) w w4) := by
          show LeftD _ _ _ _ _ _
          rw [HPT.out, HOD.out]
          exact LeftD.trans HN1.out HT1.out (LeftD.from HBB.out hl)
        clear hl
        go_wp2_with fail
        go_roundw
        case rel => exact ⟨k + 1, by omega, by go_num, HNX.out⟩
        case measure => simp [intOf]; omega
      · by_cases hk1 : oo.kind = 1
        · have HOD : Hid (opD (playD d (os.take k)) oo = cutD (playD d (os.take k)) oo.file oo.n) := by show _ = _; unfold opD; rw [if_neg (by rw [hk1]; decide)]; rw [if_pos hk1]
          rw [hk1] at hc0
          have HC := Lib.hid (cut_all w3 HD3.out HB3.out oo.file oo.n HFK.out)
          clear hk1
          go_wp2_with fail
          refine (HC.out).mono ?_
          rintro e w4 ⟨⟨x, rfl⟩, hl⟩
          have HNX : Hid (LeftD base db vs (playD d (os.take (k + 1))) w w4) := by
            show LeftD _ _ _ _ _ _
            rw [HPT.out, HOD.out]
            exact LeftD.trans HN1.out HT1.out (LeftD.from HBB.out hl)
          clear hl
          go_wp2_with fail
          go_roundw
          case rel => exact ⟨k + 1, by omega, by go_num, HNX.out⟩
          case measure => simp [intOf]; omega
        · by_cases hk2 : oo.kind = 2
          · have HOD : Hid (opD (playD d (os.take k)) oo = synD (playD d (os.take k)) oo.file) := by show _ = _; unfold opD; rw [if_neg (by rw [hk2]; decide)]; rw [if_neg (by rw [hk2]; decide)]; rw [if_pos hk2]
            rw [hk2] at hc0
            have HC := Lib.hid (sync_all w3 HD3.out HB3.out oo.file)
            clear hk2
            go_wp2_with fail
            refine (HC.out).mono ?_
            rintro e w4 ⟨⟨x, rfl⟩, hl⟩
            have HNX : Hid (LeftD base db vs (playD d (os.take (k + 1))) w w4) := by
              show LeftD _ _ _ _ _ _
              rw [HPT.out, HOD.out]
              exact LeftD.trans HN1.out HT1.out (LeftD.from HBB.out hl)
            clear hl
            go_wp2_with fail
            go_roundw
            case rel => exact ⟨k + 1, by omega, by go_num, HNX.out⟩
            case measure => simp [intOf]; omega
          · by_cases hk3 : oo.kind = 3
            · have HOD : Hid (opD (playD d (os.take k)) oo = ⟨(playD d (os.take k)).fs, (playD d (os.take k)).room, oo.n.toNat, (playD d (os.take k)).down⟩) := by show _ = _; unfold opD; rw [if_neg (by rw [hk3]; decide)]; rw [if_neg (by rw [hk3]; decide)]; rw [if_neg (by rw [hk3]; decide)]; rw [if_pos hk3]
              rw [hk3] at hc0
              have HC := Lib.hid (arm_any w3 HD3.out oo.n HNB.out.2)
              clear hk3
              go_wp2_with fail
              refine (HC.out).mono ?_
              rintro e w4 ⟨rfl, hd4, ht4⟩
              have hl := LeftD.row HD3.out hd4 ht4
              clear hd4 ht4
              have HNX : Hid (LeftD base db vs (playD d (os.take (k + 1))) w w4) := by
                show LeftD _ _ _ _ _ _
                rw [HPT.out, HOD.out]
                exact LeftD.trans HN1.out HT1.out (LeftD.from HBB.out hl)
              clear hl
              go_wp2_with fail
              go_roundw
              case rel => exact ⟨k + 1, by omega, by go_num, HNX.out⟩
              case measure => simp [intOf]; omega
            · by_cases hk4 : oo.kind = 4
              · have HOD : Hid (opD (playD d (os.take k)) oo = crashD oo.us (playD d (os.take k))) := by show _ = _; unfold opD; rw [if_neg (by rw [hk4]; decide)]; rw [if_neg (by rw [hk4]; decide)]; rw [if_neg (by rw [hk4]; decide)]; rw [if_neg (by rw [hk4]; decide)]; rw [if_pos hk4]
                rw [hk4] at hc0
                have HC := Lib.hid (crash_all w3 HD3.out HB3.out oo.us pu cu HNS.out W.heap.size HWB.out HULT.out)
                clear hk4
                go_wp2_with fail
                refine (HC.out).mono ?_
                rintro e w4 ⟨rfl, hl⟩
                have HNX : Hid (LeftD base db vs (playD d (os.take (k + 1))) w w4) := by
                  show LeftD _ _ _ _ _ _
                  rw [HPT.out, HOD.out]
                  exact LeftD.trans HN1.out HT1.out (LeftD.from HBB.out hl)
                clear hl
                go_wp2_with fail
                go_roundw
                case rel => exact ⟨k + 1, by omega, by go_num, HNX.out⟩
                case measure => simp [intOf]; omega
              · have HOD : Hid (opD (playD d (os.take k)) oo = playD d (os.take k)) := by show _ = _; unfold opD; rw [if_neg h0, if_neg hk1, if_neg hk2, if_neg hk3, if_neg hk4]
                have b0 : (oo.kind == 0) = false := beq_eq_false_iff_ne.2 h0
                have b1 : (oo.kind == 1) = false := beq_eq_false_iff_ne.2 hk1
                have b2 : (oo.kind == 2) = false := beq_eq_false_iff_ne.2 hk2
                have b3 : (oo.kind == 3) = false := beq_eq_false_iff_ne.2 hk3
                have b4 : (oo.kind == 4) = false := beq_eq_false_iff_ne.2 hk4
                have HNX : Hid (LeftD base db vs (playD d (os.take (k + 1))) w w3) := by
                  show LeftD _ _ _ _ _ _
                  rw [HPT.out, HOD.out]
                  exact LeftD.trans HN1.out HT1.out (LeftD.same HD1.out HBB.out)
                go_wp2_with fail
                go_roundw
                case rel => exact ⟨k + 1, by omega, by go_num, HNX.out⟩
                case measure => simp [intOf]; omega
    · have hdl : decide ((k : Int) < (os.length : Int)) = false := decide_eq_false (by omega)
      have hdl2 : decide (k < os.length) = false := decide_eq_false hlt
      obtain rfl : k = os.length := by omega
      rw [List.take_length] at HL0
      go_wp2_with fail
      go_end0
      exact ⟨rfl, HL0.out⟩
end Go.Proofs.Ytlmlcedjhpfeiaa.Dk
