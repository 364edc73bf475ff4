/- PARTS, JOINED: SLOTS: the reference: Load. Conditions: sizes that fit. SLOTS: wrap, file, Open. Conditions: the laid cell of errors.errorType. SLOTS: the reference: Open. Conditions: sizes that fit; a disk that is up. A REGION THAT DRAWS ITS ORDER, WALKED IN ONE ORDER AS LONG AS WHAT IS READ EARLY STANDS, THEN BY A TREE. No program is named. Conditions: none. -/
import Derived.Test.YtgmahahhkaofbaaGreatDoorSd1
import Derived.Test.YtgmahahhkaofbaaGreatDoorSd2
import Derived.Test.YtgmahahhkaofbaaGreatDoorSd3
import Derived.Test.YtgmahahhkaofbaaGreatDoorSd4
import Derived.Test.YtgmahahhkaofbaaGreatDoorSd5
import Derived.Test.YtgmahahhkaofbaaGreatDoorSd6
import Derived.Test.YtgmahahhkaofbaaGreatDoorSd7
import Derived.Test.YtgmahahhkaofbaaGreatDoorSd8
namespace Go.Proofs.YtgmahahhkaofbaaGreatDoor.Slt
open Go.RowKit Go.Mir Go.Mir.Parts Dk Rol Rk Wr
open Frm (one)

/-- bytes that stay, whatever boxes hold -/
def RBs (w : World) (p : Option Addr) (n c : Nat) (l : List UInt8) : Prop := ∀ y, KR 0 w y → Bs y p n c l
theorem RBs.step {w w' : World} {p : Option Addr} {n c : Nat} {l : List UInt8} (h : RBs w p n c l) (k : KR 0 w w') : RBs w' p n c l := fun y hy => h y (k.trans hy)
theorem RBs.below {w w' : World} {p : Option Addr} {n c : Nat} {l : List UInt8} (h : RBs w p n c l) (k : Below w.heap.size w w') : RBs w' p n c l := h.step (KR.of_below k)
theorem RBs.bs {w : World} {p : Option Addr} {n c : Nat} {l : List UInt8} (h : RBs w p n c l) : Bs w p n c l := h w (KR.refl 0 w)
theorem RBs.nil (w : World) : RBs w none 0 0 [] := fun _ _ => Sl.nil _ _
theorem RBs.own {w : World} {base n : Nat} {p : Option Addr} {c : Nat} {l : List UInt8} (h : w.ownsRow base 5 1 (.slice p n c) n (bytesV l)) : RBs w p n c l := fun _ hy => Cut.own_bs (hy.own h (fun hh => hh.1 rfl))
theorem RBs.drop {w : World} {p : Option Addr} {n c : Nat} {l : List UInt8} (h : RBs w p n c l) (k : Nat) (hk : k ≤ n) : RBs w (Cut.cutQ p c k) (n - k) (c - k) (l.drop k) := fun y hy => Cut.bs_drop (h y hy) k hk
def RLoadP (l : List UInt8) (w : World) (e : Ending) (w' : World) : Prop := ∃ p c, e = .returned (.tuple #[.int .u64 ((loadP l).1 : Int), .slice p (loadP l).2.length c]) ∧ RBs w' p (loadP l).2.length c (loadP l).2 ∧ Below w.heap.size w w'
set_option maxRecDepth 100000 in
set_option maxHeartbeats 3200000 in
theorem rload_any (ts : List RF) (d : DD) (i : Nat) (hi : i < 3) (w : World) (h : RDB w ts d) :
    Calls Tryz.prog 23 #[.agg (rdA ts d), .int .i64 (i : Int)] w (RLoadP (fD d i).now w) := by
  have HB1 := Lib.hid (Below.allocs w (.cells (rdA ts d) 37))
  have HROW : Hid ((w.alloc (.cells (rdA ts d) 37)).heap[w.heap.size]? = some (.cells (rdA ts d) 37 (0, 0))) := heap_alloc_last _ _
  have HR := Lib.hid (h.below HB1.out)
  have hi3i : (i : Int) < 3 := by omega
  have hti : i < ts.length := by rw [h.n3]; exact hi
  have ht : ts[i]? = some (ts[i]'hti) := List.getElem?_eq_getElem hti
  generalize ts[i]'hti = t at *
  have HF := Lib.hid (h.fd hi)
  have HT := Lib.hid ht
  have HNB : Hid ((fD d i).need ≤ 1000000) := by
    obtain ⟨t', f', _, a, _, _, b⟩ := h.at.file i hi
    rw [h.fd hi] at a
    cases a; exact b
  clear h ht hti
  go_enter Tryz.func23, Tryz.ntmps23
  go_upto_region 1 with fail
  generalize w.alloc (.cells (rdA ts d) 37) = w1 at *
  have HRG := Lib.hid (rd_range HR.out.n3 HR.out.m3 HROW.out i HT.out HF.out)
  have HHO := Lib.hid (rholds_any t (fD d i) w1 (HR.out.each i t _ HT.out HF.out).1.now HNB.out)
  have HLE : Hid ((fD d i).now.length ≤ 1000000) := Nat.le_trans (HR.out.each i t _ HT.out HF.out).1.now.ok.le HNB.out
  generalize (fD d i).now = L at *
  have HX65 := Lib.hid (one_len L)
  obtain ⟨X, hX⟩ : ∃ X, (one L).1 = X := ⟨_, rfl⟩
  obtain ⟨E, hE⟩ : ∃ E, (one L).2.2 = E := ⟨_, rfl⟩
  have HLP : Hid (loadP L = if E = 0 ∧ 8 ≤ X.length then (Rdr.beN (X.take 8), X.drop 8) else (0, [])) := by show _ = _; unfold loadP; rw [hX, hE]
  have HOX := Lib.hid hX
  have HOE := Lib.hid hE
  clear hX hE
  rw [HOX.out] at HX65
  go_wp2_with ((with_reducible refine wpAt 15 ?_); refine wpList_load_mid rfl 34 _ rfl w.heap.size (i * 2) rfl (fA t (fD d i)).toList _ HRG.out Tryz.underlying34 rfl (infoFi (fA t (fD d i)) rfl) ?_)
  try rw [Array.toArray_toList]
  refine HHO.out.mono ?_
  rintro e w5 ⟨p5, c5, rfl, ho5, hb5⟩
  have HB5 := Lib.hid (HB1.out.trans (hb5.mono HB1.out.size))
  have hon := Frm.rone_any p5 L.length c5 L w5 (Cut.own_bs ho5) (by have := HLE.out; omega)
  unfold Frm.OneP at hon
  rw [HOX.out, HOE.out] at hon
  have HON := Lib.hid hon
  clear ho5 hb5 HHO hon HB1
  go_wp2_with fail
  refine HON.out.mono ?_
  rintro e w6 ⟨p6, c6, rfl, ho6, hb6⟩
  have HB6 := Lib.hid (HB5.out.trans (hb6.mono HB5.out.size))
  have HRB := Lib.hid (RBs.own ho6)
  have HBS := Lib.hid (Cut.own_bs ho6)
  clear ho6 hb6 HON HB5
  have hle := HBS.out.le
  have hmax := HBS.out.max
  generalize (one L).2.1 = N at *
  by_cases hE0 : E = 0
  · have he1 : (E != 0) = false := by rw [hE0]; rfl
    by_cases h8 : 8 ≤ X.length
    · have d1 : decide ((X.length : Int) < 8) = false := decide_eq_false (by omega)
      have d2 : decide (X.length < 8) = false := decide_eq_false (by omega)
      have hlp := HLP.out
      rw [if_pos ⟨hE0, h8⟩] at hlp
      have HL2 := Lib.hid hlp
      have HLEN := Lib.hid h8
      clear hE0 hlp HLP
      go_upto_region 6 with fail
      clear d1 d2 he1
      go_loop [9, 10] (fun x j => ∃ k : Nat, k ≤ 8 ∧ j = .int .i64 k ∧ x = .int .u64 (Rdr.beN (X.take k) : Nat)) (fun _ j => 8 - (intOf j).toNat)
      case atStart => exact ⟨0, by omega, rfl, rfl⟩
      case round =>
        obtain ⟨k, hk, rfl, rfl⟩ := hrel
        by_cases hlt : k < 8
        · have hd : decide ((k:Int) < 8) = true := decide_eq_true (by omega)
          have hd2 : decide (k < 8) = true := decide_eq_true hlt
          obtain ⟨b', o', rfl⟩ := HBS.out.addr (by omega) (by omega)
          have hkl : k < X.length := by omega
          have hc' := Bs.byte HBS.out (j := k) hkl
          have hbe := Rdr.beN_snoc (X.take k) (X[k]'hkl)
          rw [← take_snoc X k hkl] at hbe
          have hb1 := Rdr.beN_lt_pow (X.take (k + 1))
          have hb2 : 256 ^ (X.take (k + 1)).length ≤ 256 ^ 8 := Nat.pow_le_pow_right (by omega) (by rw [List.length_take]; omega)
          have hb4 : (256 : Nat) ^ 8 = 18446744073709551616 := by decide
          generalize X[k]'hkl = y at *
          have hll : y.toNat < 256 := y.toNat_lt
          generalize hB0 : Rdr.beN (X.take k) = B at *
          generalize hB2 : Rdr.beN (X.take (k + 1)) = B2 at *
          have HB2 := Lib.hid hB2
          have q1 : IntKind.u64.wrap ((256 : Int) * (B : Int)) = ((256 * B : Nat) : Int) := by rw [IntKind.wrap_u64]; omega
          have q2 : IntKind.u64.wrap (((256 * B : Nat) : Int) + (y.toNat : Int)) = (B2 : Int) := by rw [IntKind.wrap_u64]; omega
          have q3 : IntKind.u64.wrap ((256 : Int) * (B : Int) + (y.toNat : Int)) = (B2 : Int) := by rw [IntKind.wrap_u64]; omega
          have HW := Lib.hid q1
          have HW2 := Lib.hid q2
          have HW3 := Lib.hid q3
          clear hB0 hB2 hbe hb1 hb2 hb4
          go_wp2_with fail
          go_round
          case rel =>
            exact ⟨k + 1, by omega, by go_num, by first | rw [HB2.out] | (rw [HW.out, HW2.out, HB2.out]) | (rw [HW3.out, HB2.out])⟩
          case measure => simp [intOf]; omega
        · obtain rfl : k = 8 := by omega
          have hd : decide ((8:Int) < 8) = false := by decide
          have hrun := Cut.cutR HBS.out 8 8 rfl HLEN.out
          generalize Rdr.beN (X.take 8) = TN at *
          have hrd := Lib.hid (HRB.out.drop 8 HLEN.out)
          have hdl : (X.drop 8).length = X.length - 8 := List.length_drop
          have HDL := Lib.hid hdl
          generalize X.drop 8 = RB at *
          clear hdl
          go_upto_region 9 with fail
          refine wp_region_eager [(0, true), (1, true), (2, true), (3, true), (4, true)] (by kernel_rfl) (by kernel_rfl) (eagerOpen rfl ?_)
          have hy0 : Below w6.heap.size w6 w6.drew := below_drew1 _ _
          repeat (first
            | (first | (apply wpEager_take; (· rfl); (· (intro w' hb'; go_simp; try with_reducible rfl)); (try simp only [Act.put, List.setIfInBounds_toArray, List.set_cons_zero, List.set_cons_succ]); (try refine eagerOpen rfl ?_)) | (refine wpEager_skip (by rfl) ?_; (try simp only [Act.put, List.setIfInBounds_toArray, List.set_cons_zero, List.set_cons_succ]); (try refine eagerOpen rfl ?_)) | (refine wpEager_off (by rfl) ?_; (try simp only [Act.put, List.setIfInBounds_toArray, List.set_cons_zero, List.set_cons_succ]); (try refine eagerOpen rfl ?_))))
          refine eagerEnd ?_
          have HB7 := Lib.hid (HB6.out.trans (hy0.mono HB6.out.size))
          have HRB7 := Lib.hid (hrd.out.below hy0)
          clear hrd hy0
          go_wp2_with fail
          go_ret2
          unfold RLoadP
          rw [HL2.out]
          refine ⟨Cut.cutQ p6 c6 8, c6 - 8, ?_, ?_, HB7.out⟩
          · show _ = Ending.returned (.tuple #[.int .u64 (TN : Int), .slice _ RB.length _])
            rw [HDL.out]
            rfl
          · show RBs _ _ RB.length _ RB
            rw [HDL.out]; exact HRB7.out
    · have d1 : decide ((X.length : Int) < 8) = true := decide_eq_true (by omega)
      have d2 : decide (X.length < 8) = true := decide_eq_true (by omega)
      have hlp := HLP.out
      rw [if_neg (fun hh => h8 hh.2)] at hlp
      have HL2 := Lib.hid hlp
      clear hE0 hlp HLP h8
      go_wp2_with fail
      go_ret2
      unfold RLoadP
      rw [HL2.out]
      exact ⟨none, 0, rfl, RBs.nil _, HB6.out⟩
  · have he1 : (E != 0) = true := bne_iff_ne.2 hE0
    have hlp := HLP.out
    rw [if_neg (fun hh => hE0 hh.1)] at hlp
    have HL2 := Lib.hid hlp
    clear hE0 hlp HLP
    go_wp2_with fail
    go_ret2
    unfold RLoadP
    rw [HL2.out]
    exact ⟨none, 0, rfl, RBs.nil _, HB6.out⟩
end Go.Proofs.YtgmahahhkaofbaaGreatDoor.Slt

namespace Go.Proofs.YtgmahahhkaofbaaGreatDoor.Slt
open Go.RowKit Go.Mir Go.Mir.Parts Dk Rol Wr
open Frm (frame)

set_option maxRecDepth 100000 in
set_option maxHeartbeats 1600000 in
theorem wrap_any (t : Nat) (ht : t < 18446744073709551616) (p : Option Addr) (c : Nat) (x : List UInt8) (w : World) (hB : Bs w p x.length c x) (hx : x.length ≤ 3000) :
    Calls Tryz.prog 36 #[.int .u64 (t : Int), .slice p x.length c] w fun e w' => ∃ p' c', e = .returned (.tuple #[.slice p' (frame (be t 8 ++ x)).length c', .int .i64 0]) ∧ w'.ownsRow w.heap.size 5 1 (.slice p' (frame (be t 8 ++ x)).length c') (frame (be t 8 ++ x)).length (bytesV (frame (be t 8 ++ x))) ∧ Below w.heap.size w w' := by
  have HB := Lib.hid hB
  have HXL := Lib.hid hx
  obtain ⟨E, hE⟩ : ∃ E, be t 8 ++ x = E := ⟨_, rfl⟩
  have HL : Hid (E.length = 8 + x.length) := by show _ = _; rw [← hE, List.length_append, be_length]
  have HFR : Hid (Frm.enc E = (frame E, 0)) := by show _ = _; unfold Frm.enc; rw [if_neg (by rw [HL.out]; omega)]
  have HL4 : Hid (E.length ≤ 4000) := by show _ ≤ _; rw [HL.out]; omega
  rw [hE]
  have HEE := Lib.hid hE
  clear hB hx hE
  go_enter Tryz.func36, Tryz.ntmps36
  go_wp2_with fail
  refine (Cod.ws_new w w (Below.refl _ _) 65536 (by omega)).mono ?_
  rintro e w2 ⟨rfl, hs2, -⟩
  have HS2 := Lib.hid hs2
  clear hs2
  go_wp2_with fail
  refine (Cod.ws_num HS2.out (by omega) t 8 (by omega) (by omega) (by omega) ht).mono ?_
  rintro e w3 ⟨rfl, hs3⟩
  have HS3 := Lib.hid hs3
  clear hs3 HS2
  go_wp2_with fail
  refine (Cod.ws_bytes HS3.out (by omega) p x.length c x HB.out (by have := HXL.out; omega)).mono ?_
  rintro e w4 ⟨rfl, hs4⟩
  rw [List.nil_append, HEE.out] at hs4
  have HS4 := Lib.hid hs4
  clear hs4 HS3 HEE
  go_wp2_with fail
  refine (Cod.ws_done HS4.out (by omega) (by have := HL4.out; omega)).mono ?_
  rintro e w5 ⟨⟨p5, c5, rfl, ho5⟩, hs5, hb5⟩
  have hen := Frm.encode_any p5 E.length c5 E w5 (Cut.own_bs ho5) HL4.out
  rw [HFR.out] at hen
  have HEN := Lib.hid hen
  have HS5 := Lib.hid hs5.low
  clear ho5 hs5 hb5 hen HS4
  go_wp2_with fail
  refine HEN.out.mono ?_
  rintro e w6 ⟨p6, c6, rfl, ho6, hb6⟩
  have HB6 := Lib.hid (HS5.out.trans (hb6.mono HS5.out.size))
  have HO6 := Lib.hid (own_base ho6 (fun k hk => Nat.le_trans HS5.out.size (own_ge ho6 k hk)))
  clear ho6 hb6
  go_wp2_with fail
  go_ret2
  exact ⟨p6, c6, rfl, HO6.out, HB6.out⟩
theorem file_is (z : Int) (w : World) : Calls Tryz.prog 20 #[.int .i64 z] w fun e w' => e = .returned (.bool (decide (0 ≤ z ∧ z < 3))) ∧ w = w' := by
  by_cases h0 : 0 ≤ z
  · have d0 : decide ((0 : Int) ≤ z) = true := decide_eq_true h0
    by_cases h1 : z < 3
    · have d1 : decide (z < 3) = true := decide_eq_true h1
      have dq : decide (0 ≤ z ∧ z < 3) = true := decide_eq_true ⟨h0, h1⟩
      rw [dq]
      clear h0 h1 dq
      go_enter Tryz.func20, Tryz.ntmps20
      go_wp2_with fail
      go_ret
      exact ⟨rfl, rfl⟩
    · have d1 : decide (z < 3) = false := decide_eq_false h1
      have dq : decide (0 ≤ z ∧ z < 3) = false := decide_eq_false (fun h => h1 h.2)
      rw [dq]
      clear h0 h1 dq
      go_enter Tryz.func20, Tryz.ntmps20
      go_wp2_with fail
      go_ret
      exact ⟨rfl, rfl⟩
  · have d0 : decide ((0 : Int) ≤ z) = false := decide_eq_false h0
    have dq : decide (0 ≤ z ∧ z < 3) = false := decide_eq_false (fun h => h0 h.1)
    rw [dq]
    clear h0 dq
    go_enter Tryz.func20, Tryz.ntmps20
    go_wp2_with fail
    go_ret
    exact ⟨rfl, rfl⟩
theorem file_ok (a : Nat) (h : a < 3) (w : World) : Calls Tryz.prog 20 #[.int .i64 (a : Int)] w fun e w' => e = .returned (.bool true) ∧ w = w' := by
  have := file_is (a : Int) w
  rwa [decide_eq_true (show 0 ≤ (a : Int) ∧ (a : Int) < 3 by omega)] at this
theorem built_two (a b : Nat) : Tryz.prog.built 72 [(0, .int .i64 (a : Int)), (1, .int .i64 (b : Int))] = some #[.int .i64 (a : Int), .int .i64 (b : Int)] := by kernel_rfl
theorem built_slots (db a b bx : Nat) : Tryz.prog.built 76 [(0, .pointer (some ⟨db, 0, none⟩)), (1, .agg #[.int .i64 (a : Int), .int .i64 (b : Int)]), (2, .int .i64 (-1)), (5, .func (.func 53) #[] #[.pointer (some ⟨bx, 0, none⟩)])] = some (slA db a b ⟨-1, 0, []⟩ none 0 bx) := by kernel_rfl
theorem info2 (n : Nat) (h : n = 2) : (Tryz.prog.info? 72).map (·.size) = some n := by subst h; kernel_rfl
theorem slA_files {w : World} {sb db a b : Nat} {s : SS} {pb : Option Addr} {cb bx : Nat} {t : TypeId} {fr : Nat × Nat} (h : w.heap[sb]? = some (.cells (slA db a b s pb cb bx) t fr)) : w.rangeAt sb 1 [.int .i64 (a : Int), .int .i64 (b : Int)] := by
  obtain ⟨_, c1, c2, _⟩ := slA_cells h
  intro j v hv
  match j, hv with
  | 0, hv => cases hv; exact c1
  | 1, hv => cases hv; exact c2
/-- the slots that are read so far -/
def opK (d : DD) (a b k : Nat) : SS := if k = 0 then ⟨-1, 0, []⟩ else if k = 1 then bet ⟨-1, 0, []⟩ a (fD d a).now else opnS d a b
theorem bet_body {s : SS} {f : Nat} {l : List UInt8} (h : s.turn = 0 → s.body = []) : (bet s f l).turn = 0 → (bet s f l).body = [] := by
  unfold bet
  split
  · rename_i hh
    intro h0
    have h0 : (loadP l).1 = 0 := h0
    omega
  · exact h
theorem opn_body (d : DD) (a b : Nat) : (opnS d a b).turn = 0 → (opnS d a b).body = [] := bet_body (bet_body (fun _ => rfl))
def OpenP (base db a b : Nat) (d : DD) (w : World) (e : Ending) (w' : World) : Prop := ∃ sb, e = .returned (.tuple #[.pointer (some ⟨sb, 0, none⟩), .int .i64 0]) ∧ SX base sb db a b d (opnS d a b) w' ∧ Below w.heap.size w w'
set_option maxRecDepth 100000 in
set_option maxHeartbeats 3200000 in
theorem sopen_any {base db : Nat} {d : DD} (w : World) (hE : Rdr.EType w) (hX : DX base db d w) (a b : Nat) (ha : a < 3) (hb : b < 3) (hne : a ≠ b) (hdn : d.down = false) :
    Calls Tryz.prog 9 #[.pointer (some ⟨db, 0, none⟩), .int .i64 (a : Int), .int .i64 (b : Int)] w (OpenP base db a b d w) := by
  have HRM := Lib.hid (xroomS w hX)
  have HDN := Lib.hid (xdownS w hX)
  rw [hdn] at HDN
  have hr := hX.room.1
  have e1 : ((d.room : Int) == 0) = false := by rw [beq_eq_false_iff_ne]; omega
  have e2 : (d.room == 0) = false := by rw [beq_eq_false_iff_ne]; omega
  have e3 : ((a : Int) == (b : Int)) = false := by rw [beq_eq_false_iff_ne]; omega
  have e4 : (a == b) = false := by rw [beq_eq_false_iff_ne]; omega
  have HFA := Lib.hid ha
  have HFB := Lib.hid hb
  have HE := Lib.hid hE
  have HX := Lib.hid hX
  clear hE hX ha hb hne hdn hr
  go_enter Tryz.func9, Tryz.ntmps9
  go_wp2_with fail
  refine HRM.out.mono ?_
  rintro e w' ⟨rfl, rfl⟩
  go_wp2_with fail
  refine (file_ok a HFA.out w).mono ?_
  rintro e w' ⟨rfl, rfl⟩
  go_wp2_with fail
  refine (file_ok b HFB.out w).mono ?_
  rintro e w' ⟨rfl, rfl⟩
  go_wp2_with fail
  refine HDN.out.mono ?_
  rintro e w' ⟨rfl, rfl⟩
  clear HRM HDN
  go_wp2_with (refine Rdr.wpList_build rfl 72 _ rfl [(0, .int .i64 (a : Int)), (1, .int .i64 (b : Int))] rfl _ (built_two a b) ?_)
  refine (load_fn db w).mono ?_
  rintro e w1 ⟨rfl, rfl⟩
  go_upto_region 8 with (refine Rdr.wpList_build rfl 76 _ rfl [(0, .pointer (some ⟨db, 0, none⟩)), (1, .agg #[.int .i64 (a : Int), .int .i64 (b : Int)]), (2, .int .i64 (-1)), (5, .func (.func 53) #[] #[.pointer (some ⟨w.heap.size, 0, none⟩)])] rfl _ (built_slots db a b w.heap.size) ?_)
  obtain ⟨q1, q2, q3, q4⟩ := two_allocs w (.cells #[.pointer (some ⟨db, 0, none⟩)] 26) (.cells (slA db a b ⟨-1, 0, []⟩ none 0 w.heap.size) 76)
  have HS0 : Hid (SX base (w.heap.size + 1) db a b d ⟨-1, 0, []⟩ ((w.alloc (.cells #[.pointer (some ⟨db, 0, none⟩)] 26)).alloc (.cells (slA db a b ⟨-1, 0, []⟩ none 0 w.heap.size) 76))) :=
    ⟨HX.out.below q4, Nat.le_trans HX.out.1 (Nat.le_succ _), ⟨none, 0, w.heap.size, q2, Rd.of_own (World.ownsRow_nil _ _ _ _), q1⟩, by show 0 < _; omega, by show -1 ≤ (-1 : Int) ∧ (-1 : Int) ≤ 2; omega⟩
  have HB0 := Lib.hid q4
  have HRG := Lib.hid (slA_files q2)
  have HBS : Hid (base ≤ w.heap.size) := HX.out.1
  clear q1 q2 q3 q4 HX
  generalize (w.alloc (.cells #[.pointer (some ⟨db, 0, none⟩)] 26)).alloc (.cells (slA db a b ⟨-1, 0, []⟩ none 0 w.heap.size) 76) = w2 at *
  have HSB : Hid (w.heap.size ≤ w.heap.size + 1) := Nat.le_succ _
  generalize w.heap.size + 1 = sb at *
  go_wp2_with (refine wpList_load_mid rfl 72 _ rfl sb 1 rfl [.int .i64 (a : Int), .int .i64 (b : Int)] _ HRG.out Tryz.underlying72 rfl (info2 _ rfl) ?_)
  go_loopw [10, 11, 12, 46] (fun fv tv bv j wr => ∃ k : Nat, k ≤ 2 ∧ j = .int .i64 k ∧ SX base sb db a b d (opK d a b k) wr ∧ Below w.heap.size w wr) (fun _ _ _ j _ => 2 - (intOf j).toNat)
  case atStart => exact ⟨0, by omega, rfl, HS0.out, HB0.out⟩
  case round =>
    obtain ⟨k, hk, rfl, hs, hbw⟩ := hrel
    have HS := Lib.hid hs
    have HBW := Lib.hid hbw
    clear hs hbw
    by_cases k0 : k = 0
    · subst k0
      have hd : decide (((0 : Nat) : Int) < (2 : Int)) = true := by decide
      have hix : ∀ w', (Instr.index 72 (.agg #[.int .i64 (a : Int), .int .i64 (b : Int)]) (.int .i64 0)).run Tryz.prog w' = .ok (.int .i64 (a : Int)) w' := fun w' => rfl
      have HFF := HFA.out
      obtain ⟨S0, hS0⟩ : ∃ S0, opK d a b 0 = S0 := ⟨_, rfl⟩
      have HOK : Hid (opK d a b 1 = bet S0 a (fD d a).now) := by show _ = _; rw [← hS0]; rfl
      rw [hS0] at HS
      clear hS0
      skip
      -- one file a, its turn and snapshot LP; what was read before is SS, what is read then opK d a b 1
      have hbx5 := HS.out.cells
      obtain ⟨pb, cb, bx, _, hbx, hrow⟩ := hbx5
      obtain ⟨_, _, _, _, _, _, c6⟩ := slA_cells hrow
      have HLD := Lib.hid (load_any (i := a) HFF wr (HE.out.below HBW.out HE.out.lt) HS.out.dx hbx)
      clear hbx hrow
      go_wp2_with fail
      refine HLD.out.mono ?_
      rintro e w5 ⟨p5, c5, rfl, ho5, hb5⟩
      have hs5 := HS.out.below hb5
      obtain ⟨pb5, cb5, bx5, _, _, hrow5⟩ := hs5.cells
      obtain ⟨_, _, _, _, c4, _⟩ := slA_cells hrow5
      have hfz : ∀ j, w5.frozen? ⟨sb, j, none⟩ = false := fun j => frozen_of_row _ _ _ _ _ hrow5
      have HS5 := Lib.hid hs5
      have HB5 := Lib.hid (HBW.out.trans (hb5.mono HBW.out.size))
      have HLT := Lib.hid (load_lt (fD d a).now)
      have HRD : Hid (Rd w5 base (.slice p5 (loadP (fD d a).now).2.length c5) (loadP (fD d a).now).2) := (Rd.of_own ho5).base (Nat.le_trans HBS.out HBW.out.size)
      clear hs5 hrow5 ho5 hb5 c6 HLD HS HBW
      by_cases hgt : S0.turn < (loadP (fD d a).now).1
      · have d1 : decide ((S0.turn : Int) < ((loadP (fD d a).now).1 : Int)) = true := decide_eq_true (by omega)
        have d2 : decide (S0.turn < (loadP (fD d a).now).1) = true := decide_eq_true hgt
        have HNX : Hid (opK d a b 1 = ⟨(a : Int), (loadP (fD d a).now).1, (loadP (fD d a).now).2⟩) := by show _ = _; rw [HOK.out]; exact if_pos hgt
        clear hgt
        generalize loadP (fD d a).now = LP at *
        obtain ⟨LT, LB⟩ := LP
        have d3 : decide ((S0.turn : Int) < (LT : Int)) = true := d1
        have d4 : decide (S0.turn < LT) = true := d2
        clear d1 d2
        have hst := HS5.out.set3 (a : Int) (by omega) LT HLT.out p5 c5 LB HRD.out
        have HST := Lib.hid hst
        have HB6 := Lib.hid (HB5.out.trans (hst.2.2.below HB5.out.size (fun i hi => by have hi : i = sb := hi; have := HSB.out; omega)))
        clear hst
        go_wp2_with fail
        go_roundw
        case rel => exact ⟨1, by omega, by go_num, by rw [HNX.out]; exact HST.out.1, HB6.out⟩
        case measure => simp [intOf]
      · have d1 : decide ((S0.turn : Int) < ((loadP (fD d a).now).1 : Int)) = false := decide_eq_false (by omega)
        have d2 : decide (S0.turn < (loadP (fD d a).now).1) = false := decide_eq_false hgt
        have HNX : Hid (opK d a b 1 = S0) := by show _ = _; rw [HOK.out]; exact if_neg hgt
        clear hgt
        generalize loadP (fD d a).now = LP at *
        go_wp2_with fail
        go_roundw
        case rel => exact ⟨1, by omega, by go_num, by rw [HNX.out]; exact HS5.out, HB5.out⟩
        case measure => simp [intOf]
    · by_cases k1 : k = 1
      · subst k1
        have hd : decide (((1 : Nat) : Int) < (2 : Int)) = true := by decide
        have hix : ∀ w', (Instr.index 72 (.agg #[.int .i64 (a : Int), .int .i64 (b : Int)]) (.int .i64 1)).run Tryz.prog w' = .ok (.int .i64 (b : Int)) w' := fun w' => rfl
        have HFF := HFB.out
        obtain ⟨S0, hS0⟩ : ∃ S0, opK d a b 1 = S0 := ⟨_, rfl⟩
        have HOK : Hid (opK d a b 2 = bet S0 b (fD d b).now) := by show _ = _; rw [← hS0]; rfl
        rw [hS0] at HS
        clear hS0 k0
        skip
        -- one file b, its turn and snapshot LP; what was read before is SS, what is read then opK d a b 2
        have hbx5 := HS.out.cells
        obtain ⟨pb, cb, bx, _, hbx, hrow⟩ := hbx5
        obtain ⟨_, _, _, _, _, _, c6⟩ := slA_cells hrow
        have HLD := Lib.hid (load_any (i := b) HFF wr (HE.out.below HBW.out HE.out.lt) HS.out.dx hbx)
        clear hbx hrow
        go_wp2_with fail
        refine HLD.out.mono ?_
        rintro e w5 ⟨p5, c5, rfl, ho5, hb5⟩
        have hs5 := HS.out.below hb5
        obtain ⟨pb5, cb5, bx5, _, _, hrow5⟩ := hs5.cells
        obtain ⟨_, _, _, _, c4, _⟩ := slA_cells hrow5
        have hfz : ∀ j, w5.frozen? ⟨sb, j, none⟩ = false := fun j => frozen_of_row _ _ _ _ _ hrow5
        have HS5 := Lib.hid hs5
        have HB5 := Lib.hid (HBW.out.trans (hb5.mono HBW.out.size))
        have HLT := Lib.hid (load_lt (fD d b).now)
        have HRD : Hid (Rd w5 base (.slice p5 (loadP (fD d b).now).2.length c5) (loadP (fD d b).now).2) := (Rd.of_own ho5).base (Nat.le_trans HBS.out HBW.out.size)
        clear hs5 hrow5 ho5 hb5 c6 HLD HS HBW
        by_cases hgt : S0.turn < (loadP (fD d b).now).1
        · have d1 : decide ((S0.turn : Int) < ((loadP (fD d b).now).1 : Int)) = true := decide_eq_true (by omega)
          have d2 : decide (S0.turn < (loadP (fD d b).now).1) = true := decide_eq_true hgt
          have HNX : Hid (opK d a b 2 = ⟨(b : Int), (loadP (fD d b).now).1, (loadP (fD d b).now).2⟩) := by show _ = _; rw [HOK.out]; exact if_pos hgt
          clear hgt
          generalize loadP (fD d b).now = LP at *
          obtain ⟨LT, LB⟩ := LP
          have d3 : decide ((S0.turn : Int) < (LT : Int)) = true := d1
          have d4 : decide (S0.turn < LT) = true := d2
          clear d1 d2
          have hst := HS5.out.set3 (b : Int) (by omega) LT HLT.out p5 c5 LB HRD.out
          have HST := Lib.hid hst
          have HB6 := Lib.hid (HB5.out.trans (hst.2.2.below HB5.out.size (fun i hi => by have hi : i = sb := hi; have := HSB.out; omega)))
          clear hst
          go_wp2_with fail
          go_roundw
          case rel => exact ⟨2, by omega, by go_num, by rw [HNX.out]; exact HST.out.1, HB6.out⟩
          case measure => simp [intOf]
        · have d1 : decide ((S0.turn : Int) < ((loadP (fD d b).now).1 : Int)) = false := decide_eq_false (by omega)
          have d2 : decide (S0.turn < (loadP (fD d b).now).1) = false := decide_eq_false hgt
          have HNX : Hid (opK d a b 2 = S0) := by show _ = _; rw [HOK.out]; exact if_neg hgt
          clear hgt
          generalize loadP (fD d b).now = LP at *
          go_wp2_with fail
          go_roundw
          case rel => exact ⟨2, by omega, by go_num, by rw [HNX.out]; exact HS5.out, HB5.out⟩
          case measure => simp [intOf]
      · obtain rfl : k = 2 := by omega
        have hd : decide (((2 : Nat) : Int) < (2 : Int)) = false := by decide
        have HSE : Hid (SX base sb db a b d (opnS d a b) wr) := HS.out
        clear k0 k1
        go_wp2_with fail
        go_ret2
        exact ⟨sb, rfl, HSE.out, HBW.out⟩
end Go.Proofs.YtgmahahhkaofbaaGreatDoor.Slt

namespace Go.Proofs.YtgmahahhkaofbaaGreatDoor.Slt
open Go.RowKit Go.Mir Go.Mir.Parts Dk Rol Rk Wr

/-- the reference's slots: a value of five cells -/
def rsA (a b : Nat) (s : SS) (p : Option Addr) (c : Nat) : Array Value := #[.int .i64 (a : Int), .int .i64 (b : Int), .int .i64 s.now, .int .u64 (s.turn : Int), .slice p s.body.length c]
def zS : Array Value := #[.int .i64 0, .int .i64 0, .int .i64 0, .int .u64 0, .slice none 0 0]
theorem zeroRS (w : World) : (zeroValue 46).run Tryz.prog w = .ok (.agg zS) w := by kernel_rfl
theorem infoRS (n : Nat) (h : n = 5) : (Tryz.prog.info? 46).map (·.size) = some n := by subst h; kernel_rfl
theorem rsA_one (a b : Nat) (s : SS) (p : Option Addr) (c : Nat) : (rsA a b s p c).all (·.oneCell') = true := by simp [rsA, Value.oneCell']
theorem built_rs (a b : Nat) : Tryz.prog.built 46 [(0, .int .i64 (a : Int)), (1, .int .i64 (b : Int)), (2, .int .i64 (-1))] = some (rsA a b ⟨-1, 0, []⟩ none 0) := by kernel_rfl
theorem rs_cells {w : World} {g a b : Nat} {s : SS} {p : Option Addr} {c : Nat} {t : TypeId} (h : w.heap[g]? = some (.cells (rsA a b s p c) t (0, 0))) :
    w.cell? ⟨g, 0, none⟩ = some (.int .i64 (a : Int)) ∧ w.cell? ⟨g, 1, none⟩ = some (.int .i64 (b : Int)) ∧ w.cell? ⟨g, 2, none⟩ = some (.int .i64 s.now) ∧ w.cell? ⟨g, 3, none⟩ = some (.int .u64 (s.turn : Int)) ∧ w.cell? ⟨g, 4, none⟩ = some (.slice p s.body.length c) ∧ ∀ j, w.frozen? ⟨g, j, none⟩ = false := by
  refine ⟨?_, ?_, ?_, ?_, ?_, fun j => frozen_of_row _ _ j _ _ h⟩ <;> (rw [cell_of_row _ _ _ _ _ _ h]; rfl)
theorem kr_turn {base g : Nat} {a b : World} {M : Array Value} {t : TypeId} {fr : Nat × Nat} (h : Turns (fun k => k = g) a b) (hr : a.heap[g]? = some (.cells M t fr)) (h1 : t ≠ 5) (h2 : t ≠ 70) : KR base a b :=
  h.imp (fun k _ hk => by subst hk; exact ⟨_, _, _, hr, h1, h2⟩)
/-- now, turn and body stored -/
theorem rs_set3 {w : World} {g a b : Nat} {s : SS} {p : Option Addr} {c : Nat} (h : w.heap[g]? = some (.cells (rsA a b s p c) 46 (0, 0))) (n : Int) (t : Nat) (p' : Option Addr) (c' : Nat) (l : List UInt8) :
    (((w.setCell ⟨g, 2, none⟩ (.int .i64 n)).setCell ⟨g, 3, none⟩ (.int .u64 (t : Int))).setCell ⟨g, 4, none⟩ (.slice p' l.length c')).heap[g]? = some (.cells (rsA a b ⟨n, t, l⟩ p' c') 46 (0, 0)) ∧
      Turns (fun k => k = g) w (((w.setCell ⟨g, 2, none⟩ (.int .i64 n)).setCell ⟨g, 3, none⟩ (.int .u64 (t : Int))).setCell ⟨g, 4, none⟩ (.slice p' l.length c')) := by
  have e1 := Dk.cell_put (off := 2) (.int .i64 n) h
  have e2 := Dk.cell_put (off := 3) (.int .u64 (t : Int)) e1
  have e3 := Dk.cell_put (off := 4) (.slice p' l.length c') e2
  have t1 : Turns (fun k => k = g) w (w.setCell ⟨g, 2, none⟩ (.int .i64 n)) := Turns.setCell (S := fun k => k = g) (p := ⟨g, 2, none⟩) (Turns.refl _ w) (fun _ => rfl) (.int .i64 n)
  have t2 : Turns (fun k => k = g) w ((w.setCell ⟨g, 2, none⟩ (.int .i64 n)).setCell ⟨g, 3, none⟩ (.int .u64 (t : Int))) := Turns.setCell (S := fun k => k = g) (p := ⟨g, 3, none⟩) t1 (fun _ => rfl) (.int .u64 (t : Int))
  exact ⟨e3, Turns.setCell (S := fun k => k = g) (p := ⟨g, 4, none⟩) t2 (fun _ => rfl) (.slice p' l.length c')⟩
def ROpP (d : DD) (a b : Nat) (w : World) (e : Ending) (w' : World) : Prop := ∃ p c, e = .returned (.tuple #[.agg (rsA a b (opnS d a b) p c), .int .i64 0]) ∧ RBs w' p (opnS d a b).body.length c (opnS d a b).body ∧ Below w.heap.size w w'
theorem opn_form {d : DD} {a b n m : Nat} {x y : List UInt8} (hA : loadP (fD d a).now = (n, x)) (hB : loadP (fD d b).now = (m, y)) : opnS d a b = if n < m then ⟨(b : Int), m, y⟩ else if 0 < n then ⟨(a : Int), n, x⟩ else ⟨-1, 0, []⟩ := by
  have h1 : bet ⟨-1, 0, []⟩ a (fD d a).now = if 0 < n then ⟨(a : Int), n, x⟩ else ⟨-1, 0, []⟩ := by unfold bet; rw [hA]
  have h2 : (if 0 < n then (⟨(a : Int), n, x⟩ : SS) else ⟨-1, 0, []⟩).turn = n := by
    split
    · rfl
    · show 0 = n; omega
  unfold opnS
  rw [h1]
  unfold bet
  rw [hB, h2]
set_option maxRecDepth 100000 in
set_option maxHeartbeats 6400000 in
theorem ropenS_any (ts : List RF) (d : DD) (a b : Nat) (ha : a < 3) (hb : b < 3) (hne : a ≠ b) (hdn : d.down = false) (w : World) (h : RDB w ts d) :
    Calls Tryz.prog 10 #[.agg (rdA ts d), .int .i64 (a : Int), .int .i64 (b : Int)] w (ROpP d a b w) := by
  have hz := zeroRS
  obtain ⟨q1, q2, q3, q4⟩ := two_allocs w (.cells (rdA ts d) 37) (.cells zS 46)
  have HROW := Lib.hid q1
  have HZX := Lib.hid q2
  have HLOW := Lib.hid q4
  have HR := Lib.hid (h.below q4)
  have HSZ := Lib.hid q3
  have HA := Lib.hid ha
  have HB := Lib.hid hb
  obtain ⟨hc6, _, hc8, hfz⟩ := rd_cells h.n3 h.m3 q1
  rw [hdn] at hc8
  have hrm := h.room1.1
  have e1 : ((d.room : Int) == 0) = false := by rw [beq_eq_false_iff_ne]; omega
  have d1 : decide ((a : Int) < 0) = false := decide_eq_false (by omega)
  have d2 : decide ((2 : Int) < (a : Int)) = false := decide_eq_false (by omega)
  have d3 : decide (2 < a) = false := decide_eq_false (by omega)
  have d4 : decide ((b : Int) < 0) = false := decide_eq_false (by omega)
  have d5 : decide ((2 : Int) < (b : Int)) = false := decide_eq_false (by omega)
  have d6 : decide (2 < b) = false := decide_eq_false (by omega)
  have e2 : ((a : Int) == (b : Int)) = false := by rw [beq_eq_false_iff_ne]; omega
  have e3 : (a == b) = false := by rw [beq_eq_false_iff_ne]; omega
  clear q1 q2 q3 q4 h ha hb hne hdn hrm
  go_enter Tryz.func10, Tryz.ntmps10
  go_upto_region 1 with fail
  generalize (w.alloc (.cells (rdA ts d) 37)).alloc (.cells zS 46) = w2 at *
  go_upto_region 7 with fail
  clear hc6 hc8 hfz e1 d1 d2 d3 d4 d5 d6 e2 e3
  go_upto_region 8 with (first
    | refine Rdr.wpList_build rfl 46 _ rfl [(0, .int .i64 (a : Int)), (1, .int .i64 (b : Int)), (2, .int .i64 (-1))] rfl _ (built_rs a b) ?_
    | refine wpList_store_row rfl 46 _ _ rfl w2.heap.size (rsA a b ⟨-1, 0, []⟩ none 0) rfl rfl 46 zS (heap_alloc_last _ _) (infoRS _ rfl) rfl (rsA_one _ _ _ _ _) ?_)
  try simp only [Act.put]
  have hb3 : Below w2.heap.size w2 ((w2.alloc (.cells zS 46)).setRow w2.heap.size (rsA a b ⟨-1, 0, []⟩ none 0)) := below_setRow (Below.allocs w2 _) (Nat.le_refl _) _
  have HSR := Lib.hid (setRow_heap _ _ _ (rsA a b ⟨-1, 0, []⟩ none 0) _ _ (heap_alloc_last w2 (.cells zS 46)))
  have hlow := HLOW.out.trans (hb3.mono HLOW.out.size)
  have hrow := Below.keepOld hb3 HROW.out
  have hzx := Below.keepOld hb3 HZX.out
  have hr3 := HR.out.below hb3
  clear HLOW HROW HZX HR hb3
  generalize (w2.alloc (.cells zS 46)).setRow w2.heap.size (rsA a b ⟨-1, 0, []⟩ none 0) = w3 at *
  generalize w2.heap.size = g8 at *
  have HG8 : Hid (w.heap.size + 2 ≤ g8) := by show _ ≤ _; rw [HSZ.out]; exact Nat.le_refl _
  have HRL := Lib.hid (rload_any ts d a HA.out w3 hr3)
  go_wp2_with (refine wpList_load_row rfl 37 _ rfl w.heap.size rfl 37 (rdA ts d) (0, 0) _ hrow Tryz.underlying37 rfl (infoRD _ (rdA_size hr3.n3 hr3.m3)) ?_)
  refine HRL.out.mono ?_
  rintro e w4 ⟨p4, c4, rfl, hrb4, hb4⟩
  have hl4 := hlow.trans (hb4.mono hlow.size)
  have hw4 := Below.keepOld hb4 hrow
  have hz4 := Below.keepOld hb4 hzx
  have hr4 := hr3.below hb4
  have hs4 := Below.keepOld hb4 HSR.out
  have HRL4 := Lib.hid (rload_any ts d b HB.out w4 hr4)
  clear hlow hrow hzx hr3 HSR HRL hb4
  go_wp2_with (refine wpList_load_row rfl 37 _ rfl w.heap.size rfl 37 (rdA ts d) (0, 0) _ hw4 Tryz.underlying37 rfl (infoRD _ (rdA_size hr4.n3 hr4.m3)) ?_)
  refine HRL4.out.mono ?_
  rintro e w5 ⟨p5, c5, rfl, hrb5, hb5⟩
  have HLOW := Lib.hid (hl4.trans (hb5.mono hl4.size))
  have HZX := Lib.hid (Below.keepOld hb5 hz4)
  have HSR := Lib.hid (Below.keepOld hb5 hs4)
  have HB4 := Lib.hid (hrb4.below hb5)
  have HB5 := Lib.hid hrb5
  clear hl4 hw4 hz4 hr4 hs4 HRL4 hrb4 hrb5 hb5
  have hof := fun n x m y => @opn_form d a b n m x y
  obtain ⟨SE, hSE⟩ : ∃ SE, opnS d a b = SE := ⟨_, rfl⟩
  have HSE := Lib.hid hSE
  rw [hSE] at hof
  clear hSE
  generalize hA : loadP (fD d a).now = LA at *
  generalize hB : loadP (fD d b).now = LB at *
  obtain ⟨n, x⟩ := LA
  obtain ⟨m, y⟩ := LB
  have HF := Lib.hid (hof n x m y rfl rfl)
  have HB4 : Hid (RBs w5 p4 x.length c4 x) := HB4
  have HB5 : Hid (RBs w5 p5 y.length c5 y) := HB5
  clear hof hA hB
  dsimp only
  by_cases hnm : n < m
  · have n1 : decide ((n : Int) < (m : Int)) = true := decide_eq_true (by omega)
    have n2 : decide (n < m) = true := decide_eq_true hnm
    have hfe := HF.out
    rw [if_pos hnm] at hfe
    by_cases h0 : 0 < n
    · have n3 : decide ((0 : Int) < (n : Int)) = true := decide_eq_true (by omega)
      have n4 : decide (0 < n) = true := decide_eq_true h0
      clear hnm h0 HF
      skip
      -- now, turn, body := (a : Int), n, (p4, x, c4): up to region 14; the world w5 becomes w6
      have hset := rs_set3 HSR.out (a : Int) n p4 c4 x
      obtain ⟨_, _, q2, q3, q4, hfz⟩ := rs_cells HSR.out
      have HSET := Lib.hid hset
      have HSRO := HSR
      clear hset HSR
      go_upto_region 14 with fail
      clear q2 q3 q4 hfz
      have HSR := Lib.hid HSET.out.1
      have HKR := Lib.hid (kr_turn (base := 0) HSET.out.2 HSRO.out (by decide) (by decide))
      have hlow := HLOW.out.trans (HSET.out.2.below HLOW.out.size (fun k hk => by have hk : k = g8 := hk; have := HG8.out; omega))
      have hzx := HSET.out.2.keep HZX.out (by show ¬ w.heap.size + 1 = g8; have := HG8.out; omega)
      clear HLOW HZX HSET HSRO
      have HLOW := Lib.hid hlow
      have HZX := Lib.hid hzx
      clear hlow hzx
      generalize ((w5.setCell ⟨g8, 2, none⟩ (.int .i64 ((a : Int)))).setCell ⟨g8, 3, none⟩ (.int .u64 (n : Int))).setCell ⟨g8, 4, none⟩ (.slice p4 x.length c4) = w6 at *
      have HB5 := Lib.hid (HB5.out.step HKR.out)
      clear HKR HB4
      skip
      -- now, turn, body := (b : Int), m, (p5, y, c5): up to region 18; the world w6 becomes w7
      have hset := rs_set3 HSR.out (b : Int) m p5 c5 y
      obtain ⟨_, _, q2, q3, q4, hfz⟩ := rs_cells HSR.out
      have HSET := Lib.hid hset
      have HSRO := HSR
      clear hset HSR
      go_upto_region 18 with fail
      clear q2 q3 q4 hfz
      have HSR := Lib.hid HSET.out.1
      have HKR := Lib.hid (kr_turn (base := 0) HSET.out.2 HSRO.out (by decide) (by decide))
      have hlow := HLOW.out.trans (HSET.out.2.below HLOW.out.size (fun k hk => by have hk : k = g8 := hk; have := HG8.out; omega))
      have hzx := HSET.out.2.keep HZX.out (by show ¬ w.heap.size + 1 = g8; have := HG8.out; omega)
      clear HLOW HZX HSET HSRO
      have HLOW := Lib.hid hlow
      have HZX := Lib.hid hzx
      clear hlow hzx
      generalize ((w6.setCell ⟨g8, 2, none⟩ (.int .i64 ((b : Int)))).setCell ⟨g8, 3, none⟩ (.int .u64 (m : Int))).setCell ⟨g8, 4, none⟩ (.slice p5 y.length c5) = w7 at *
      have HBB := Lib.hid (HB5.out.step HKR.out)
      clear HKR n1 n2 n3 n4
      subst hfe
      skip
      -- the slots of the box are told: world WX, row HSR : rsA a b (opnS d a b) p5 c5, HBB : RBs, HZX : the result's row, HLOW
      go_wp2_with (first
        | refine wpList_load_row rfl 46 _ rfl g8 rfl 46 (rsA a b (⟨(b : Int), m, y⟩ : SS) p5 c5) (0, 0) _ HSR.out Tryz.underlying46 rfl (infoRS _ rfl) ?_
        | refine wpList_store_row rfl 46 _ _ rfl (w.heap.size + 1) (rsA a b (⟨(b : Int), m, y⟩ : SS) p5 c5) rfl rfl 46 zS HZX.out (infoRS _ rfl) rfl (rsA_one _ _ _ _ _) ?_)
      have HS := Lib.hid (setRow_heap _ _ _ (rsA a b (⟨(b : Int), m, y⟩ : SS) p5 c5) _ _ HZX.out)
      refine bodyPost_ret (results_cell_tmp2 rfl _ _ _ _ _ _ _ rfl HS.out Tryz.underlying46 rfl (infoRS _ rfl)) rfl ?_
      exact ⟨p5, c5, by rw [HSE.out]; rfl, by rw [HSE.out]; exact HBB.out.step (kr_turn (turns_setRow _ _ _) HZX.out (by decide) (by decide)), below_setRow HLOW.out (by omega) _⟩
    · have n3 : decide ((0 : Int) < (n : Int)) = false := decide_eq_false (by omega)
      have n4 : decide (0 < n) = false := decide_eq_false h0
      clear hnm h0 HF
      go_upto_region 14 with fail
      skip
      -- now, turn, body := (b : Int), m, (p5, y, c5): up to region 18; the world w5 becomes w7
      have hset := rs_set3 HSR.out (b : Int) m p5 c5 y
      obtain ⟨_, _, q2, q3, q4, hfz⟩ := rs_cells HSR.out
      have HSET := Lib.hid hset
      have HSRO := HSR
      clear hset HSR
      go_upto_region 18 with fail
      clear q2 q3 q4 hfz
      have HSR := Lib.hid HSET.out.1
      have HKR := Lib.hid (kr_turn (base := 0) HSET.out.2 HSRO.out (by decide) (by decide))
      have hlow := HLOW.out.trans (HSET.out.2.below HLOW.out.size (fun k hk => by have hk : k = g8 := hk; have := HG8.out; omega))
      have hzx := HSET.out.2.keep HZX.out (by show ¬ w.heap.size + 1 = g8; have := HG8.out; omega)
      clear HLOW HZX HSET HSRO
      have HLOW := Lib.hid hlow
      have HZX := Lib.hid hzx
      clear hlow hzx
      generalize ((w5.setCell ⟨g8, 2, none⟩ (.int .i64 ((b : Int)))).setCell ⟨g8, 3, none⟩ (.int .u64 (m : Int))).setCell ⟨g8, 4, none⟩ (.slice p5 y.length c5) = w7 at *
      have HBB := Lib.hid (HB5.out.step HKR.out)
      clear HKR n1 n2 n3 n4
      subst hfe
      skip
      -- the slots of the box are told: world WX, row HSR : rsA a b (opnS d a b) p5 c5, HBB : RBs, HZX : the result's row, HLOW
      go_wp2_with (first
        | refine wpList_load_row rfl 46 _ rfl g8 rfl 46 (rsA a b (⟨(b : Int), m, y⟩ : SS) p5 c5) (0, 0) _ HSR.out Tryz.underlying46 rfl (infoRS _ rfl) ?_
        | refine wpList_store_row rfl 46 _ _ rfl (w.heap.size + 1) (rsA a b (⟨(b : Int), m, y⟩ : SS) p5 c5) rfl rfl 46 zS HZX.out (infoRS _ rfl) rfl (rsA_one _ _ _ _ _) ?_)
      have HS := Lib.hid (setRow_heap _ _ _ (rsA a b (⟨(b : Int), m, y⟩ : SS) p5 c5) _ _ HZX.out)
      refine bodyPost_ret (results_cell_tmp2 rfl _ _ _ _ _ _ _ rfl HS.out Tryz.underlying46 rfl (infoRS _ rfl)) rfl ?_
      exact ⟨p5, c5, by rw [HSE.out]; rfl, by rw [HSE.out]; exact HBB.out.step (kr_turn (turns_setRow _ _ _) HZX.out (by decide) (by decide)), below_setRow HLOW.out (by omega) _⟩
  · have n1 : decide ((n : Int) < (m : Int)) = false := decide_eq_false (by omega)
    have n2 : decide (n < m) = false := decide_eq_false hnm
    have hfe := HF.out
    rw [if_neg hnm] at hfe
    by_cases h0 : 0 < n
    · have n3 : decide ((0 : Int) < (n : Int)) = true := decide_eq_true (by omega)
      have n4 : decide (0 < n) = true := decide_eq_true h0
      rw [if_pos h0] at hfe
      clear hnm h0 HF
      skip
      -- now, turn, body := (a : Int), n, (p4, x, c4): up to region 14; the world w5 becomes w6
      have hset := rs_set3 HSR.out (a : Int) n p4 c4 x
      obtain ⟨_, _, q2, q3, q4, hfz⟩ := rs_cells HSR.out
      have HSET := Lib.hid hset
      have HSRO := HSR
      clear hset HSR
      go_upto_region 14 with fail
      clear q2 q3 q4 hfz
      have HSR := Lib.hid HSET.out.1
      have HKR := Lib.hid (kr_turn (base := 0) HSET.out.2 HSRO.out (by decide) (by decide))
      have hlow := HLOW.out.trans (HSET.out.2.below HLOW.out.size (fun k hk => by have hk : k = g8 := hk; have := HG8.out; omega))
      have hzx := HSET.out.2.keep HZX.out (by show ¬ w.heap.size + 1 = g8; have := HG8.out; omega)
      clear HLOW HZX HSET HSRO
      have HLOW := Lib.hid hlow
      have HZX := Lib.hid hzx
      clear hlow hzx
      generalize ((w5.setCell ⟨g8, 2, none⟩ (.int .i64 ((a : Int)))).setCell ⟨g8, 3, none⟩ (.int .u64 (n : Int))).setCell ⟨g8, 4, none⟩ (.slice p4 x.length c4) = w6 at *
      have HBB := Lib.hid (HB4.out.step HKR.out)
      clear HKR HB5
      go_upto_region 18 with fail
      clear n1 n2 n3 n4
      subst hfe
      skip
      -- the slots of the box are told: world WX, row HSR : rsA a b (opnS d a b) p4 c4, HBB : RBs, HZX : the result's row, HLOW
      go_wp2_with (first
        | refine wpList_load_row rfl 46 _ rfl g8 rfl 46 (rsA a b (⟨(a : Int), n, x⟩ : SS) p4 c4) (0, 0) _ HSR.out Tryz.underlying46 rfl (infoRS _ rfl) ?_
        | refine wpList_store_row rfl 46 _ _ rfl (w.heap.size + 1) (rsA a b (⟨(a : Int), n, x⟩ : SS) p4 c4) rfl rfl 46 zS HZX.out (infoRS _ rfl) rfl (rsA_one _ _ _ _ _) ?_)
      have HS := Lib.hid (setRow_heap _ _ _ (rsA a b (⟨(a : Int), n, x⟩ : SS) p4 c4) _ _ HZX.out)
      refine bodyPost_ret (results_cell_tmp2 rfl _ _ _ _ _ _ _ rfl HS.out Tryz.underlying46 rfl (infoRS _ rfl)) rfl ?_
      exact ⟨p4, c4, by rw [HSE.out]; rfl, by rw [HSE.out]; exact HBB.out.step (kr_turn (turns_setRow _ _ _) HZX.out (by decide) (by decide)), below_setRow HLOW.out (by omega) _⟩
    · have n3 : decide ((0 : Int) < (n : Int)) = false := decide_eq_false (by omega)
      have n4 : decide (0 < n) = false := decide_eq_false h0
      rw [if_neg h0] at hfe
      clear hnm h0 HF
      have HBB := Lib.hid (RBs.nil w5)
      go_upto_region 18 with fail
      clear n1 n2 n3 n4
      subst hfe
      skip
      -- the slots of the box are told: world WX, row HSR : rsA a b (opnS d a b) none 0, HBB : RBs, HZX : the result's row, HLOW
      go_wp2_with (first
        | refine wpList_load_row rfl 46 _ rfl g8 rfl 46 (rsA a b (⟨-1, 0, []⟩ : SS) none 0) (0, 0) _ HSR.out Tryz.underlying46 rfl (infoRS _ rfl) ?_
        | refine wpList_store_row rfl 46 _ _ rfl (w.heap.size + 1) (rsA a b (⟨-1, 0, []⟩ : SS) none 0) rfl rfl 46 zS HZX.out (infoRS _ rfl) rfl (rsA_one _ _ _ _ _) ?_)
      have HS := Lib.hid (setRow_heap _ _ _ (rsA a b (⟨-1, 0, []⟩ : SS) none 0) _ _ HZX.out)
      refine bodyPost_ret (results_cell_tmp2 rfl _ _ _ _ _ _ _ rfl HS.out Tryz.underlying46 rfl (infoRS _ rfl)) rfl ?_
      exact ⟨none, 0, by rw [HSE.out]; rfl, by rw [HSE.out]; exact HBB.out.step (kr_turn (turns_setRow _ _ _) HZX.out (by decide) (by decide)), below_setRow HLOW.out (by omega) _⟩
end Go.Proofs.YtgmahahhkaofbaaGreatDoor.Slt

namespace Go.Mir
open Go.RowKit

section
variable {P : Program} {ops : Array Oper} {S : World → Prop} {Q : Exit → Act → World → Prop} {marks : List Nat}
/-- all that is not listed waits for every marked operation -/
def allLate (ops : Array Oper) (marks : List Nat) (l : Array Bool) : Bool := (List.range ops.size).all fun j => l.getD j false || lateB ops marks j
theorem allLate_spec {l : Array Bool} (h : allLate ops marks l = true) {j : Nat} {o : Oper} (ho : ops[j]? = some o) (hl : l.getD j false = false) : lateB ops marks j = true := by
  have hj : j < ops.size := (Array.getElem?_eq_some_iff.1 ho).1
  have := (List.all_eq_true.1 h) j (List.mem_range.2 hj)
  rw [hl, Bool.false_or] at this
  exact this
theorem wpAnyG_of_late : ∀ (n : Nat) (listed : Array Bool) (a : Act) (w : World), (∀ (j : Nat) (o : Oper), ops[j]? = some o → listed.getD j false = false → lateB ops marks j = true) →
    wpAnyH P .any ops Q (fun _ => True) n listed a w → wpAnyG P ops Q S marks n listed a w
  | 0, _, _, _, _, h => h
  | n + 1, listed, a, w, hl, h => by
    refine ⟨h.1, fun i hi => ?_⟩
    obtain ⟨hun, o, ho, _⟩ := mem_ready.1 hi
    have hlate : lateB ops marks i = true := hl i o ho (by
      cases hg : listed.getD i false with
      | false => rfl
      | true =>
        exfalso
        rcases Nat.lt_or_ge i listed.size with h' | h'
        · simp [h'] at hun hg; rw [hun] at hg; cases hg
        · simp [Array.getElem?_eq_none h'] at hg)
    refine wpOp_mono (fun a' w' h3 => ⟨fun e => (by rw [hlate] at e; cases e), wpAnyG_of_late n _ a' w' (fun j oj hoj hj => ?_) h3.2⟩) (h.2 i hi)
    refine hl j oj hoj ?_
    by_cases hij : i = j
    · subst hij
      cases hg : listed.getD i false with
      | false => rfl
      | true =>
        exfalso
        rcases Nat.lt_or_ge i listed.size with h' | h'
        · simp [h'] at hun hg; rw [hun] at hg; cases hg
        · simp [Array.getElem?_eq_none h'] at hg
    · rw [getD_set_ne false hij] at hj; exact hj
/-- the plan: what is taken or called while S stands; then a tree -/
def planU (ops : Array Oper) (marks : List Nat) (t : Tr) : List (Nat × Bool) → Array Bool → Bool
  | (i, true) :: r, l => (ops[i]?).isSome && marks.contains i && Region.free .any ops l i && (Region.ready .any ops l).contains i && planU ops marks t r (l.setIfInBounds i true)
  | (i, false) :: r, l => (ops[i]?).isSome && Region.ready .any ops l == [i] && planU ops marks t r (l.setIfInBounds i true)
  | [], l => allLate ops marks l && treeB ops t l
/-- the walk: while S stands, and on -/
def wpEagerU (P : Program) (ops : Array Oper) (S : World → Prop) (Q : Exit → Act → World → Prop) (l : List Oper) (t : Tr) : List (Oper × Bool) → Act → World → Prop
  | [], a, w => wpTree P ops (fun _ => True) Q l t a w
  | (o, true) :: r, a, w => ∃ v, YieldsIf P ops S o v a ∧ wpEagerU P ops S Q l t r (a.put o.dst v) w
  | (o, false) :: r, a, w => if Region.wanted o (yielded ops a.tmps) then o.wp P a w (fun a' w' => S w' ∧ wpEagerU P ops S Q l t r a' w') Q else wpEagerU P ops S Q l t r (a.put o.dst undef) w
theorem wpAnyG_planU {l : List Oper} (hl : l.toArray = ops) (hs : Region.noSelect ops = true) (hQ : ∀ c a d v w, Q (.panic c) (a.put d v) w → Q (.panic c) a w) (t : Tr) :
    ∀ (π : List (Nat × Bool)) (listed : Array Bool) (a : Act) (w : World), planU ops marks t π listed = true → closedL ops listed → S w → wpEagerU P ops S Q l t (planOps l π) a w → wpAnyG P ops Q S marks (π.length + t.deep) listed a w
  | [], listed, a, w, hp, _, _, h => by
    rw [List.length_nil, Nat.zero_add]
    simp only [planU, Bool.and_eq_true] at hp
    exact wpAnyG_of_late _ _ _ _ (fun j o ho hj => allLate_spec hp.1 ho hj) (wpAnyH_tree hl hs hQ t listed a w hp.2 trivial h)
  | (i, true) :: r, listed, a, w, hp, hcl, hS, h => by
    simp only [planU, Bool.and_eq_true] at hp
    obtain ⟨⟨⟨⟨h1, hmk⟩, h2⟩, h3⟩, h4⟩ := hp
    obtain ⟨o, ho⟩ := Option.isSome_iff_exists.1 h1
    have hn : nthO l i = some o := by rw [← nthO_eq, hl]; exact ho
    simp only [planOps, hn, wpEagerU] at h
    obtain ⟨v, hy, h⟩ := h
    rw [List.length_cons, Nat.add_right_comm]
    exact wpAnyG_take ho (by simpa using hmk) (Region.noSelect_spec hs) (fun c a w => hQ c a _ _ w) _ _ _ _ (Region.free_spec ho h2) (by simpa using h3) hcl hy hS (wpAnyG_planU hl hs hQ t r _ _ _ h4 (hcl.set (by simpa using h3)) hS h)
  | (i, false) :: r, listed, a, w, hp, hcl, hS, h => by
    simp only [planU, Bool.and_eq_true, beq_iff_eq] at hp
    obtain ⟨⟨h1, h2⟩, h4⟩ := hp
    obtain ⟨o, ho⟩ := Option.isSome_iff_exists.1 h1
    have hn : nthO l i = some o := by rw [← nthO_eq, hl]; exact ho
    simp only [planOps, hn, wpEagerU] at h
    rw [List.length_cons, Nat.add_right_comm]
    refine ⟨fun e => (by rw [h2] at e; cases e), fun j hj => ?_⟩
    rw [h2, List.mem_singleton] at hj
    subst hj
    unfold wpOp
    simp only [ho]
    split at h
    · rename_i hw
      rw [if_pos hw]
      exact .inl (Oper.wp_mono (fun a' w' ⟨h5, h6⟩ => ⟨fun _ => h5, wpAnyG_planU hl hs hQ t r _ _ _ h4 (hcl.set (by rw [h2]; exact List.mem_singleton.2 rfl)) h5 h6⟩) h)
    · rename_i hw
      rw [if_neg hw]
      exact ⟨fun _ => hS, wpAnyG_planU hl hs hQ t r _ _ _ h4 (hcl.set (by rw [h2]; exact List.mem_singleton.2 rfl)) hS h⟩
/-- the beginning -/
theorem wp_region_eager_u {id : Nat} {a : Act} {w : World} {l : List Oper} (S : World → Prop) (marks : List Nat) (π : List (Nat × Bool)) (t : Tr) (hm : P.follows .mixedOrders = true)
    (hp : (planU l.toArray marks t π (Array.replicate l.length false) && Region.noSelect l.toArray && π.length + t.deep == l.length) = true) (hS : S w.drew)
    (h : wpEagerU P l.toArray S (NoPanic Q) l t (planOps l π) a w.drew) : (Code.region id l.toArray true).wp P Q a w := by
  refine wp_region_noPanic ?_
  simp only [Bool.and_eq_true, beq_iff_eq] at hp
  obtain ⟨⟨h1, h2⟩, h3⟩ := hp
  have := wpAny_of_G _ _ _ _ (wpAnyG_planU (P := P) (Q := NoPanic Q) (S := S) (marks := marks) (l := l) rfl h2 (fun _ _ _ _ _ h => h) t π (Array.replicate l.length false) a w.drew h1 (fun j o _ hj => by rw [Array.getD_eq_getD_getElem?, Array.getElem?_replicate] at hj; split at hj <;> cases hj) hS h)
  refine wp_region_any hm ?_
  rw [h3] at this
  have hz : l.toArray.size = l.length := List.size_toArray ..
  rw [hz]
  exact this
/-- the next operation, written out -/
theorem eagerUOpen {l : List Oper} {t : Tr} {i : Nat} {b : Bool} {r : List (Nat × Bool)} {a : Act} {w : World} {o : Oper} (ho : nthO l i = some o)
    (h : wpEagerU P ops S Q l t ((o, b) :: planOps l r) a w) : wpEagerU P ops S Q l t (planOps l ((i, b) :: r)) a w := by
  unfold planOps; rw [ho]; exact h
theorem eagerUEnd {l : List Oper} {t : Tr} {a : Act} {w : World} (h : wpTree P ops (fun _ => True) Q l t a w) : wpEagerU P ops S Q l t (planOps l []) a w := h
theorem wpEagerU_take {l : List Oper} {t : Tr} {o : Oper} {r : List (Oper × Bool)} {a : Act} {w : World} {v : Value} (hw : Region.wanted o (yielded ops a.tmps) = true)
    (hy : ∀ w', S w' → (execOp a.eval o).run P w' = .ok (.value v) w') (h : wpEagerU P ops S Q l t r (a.put o.dst v) w) : wpEagerU P ops S Q l t ((o, true) :: r) a w := ⟨v, .inl ⟨hw, hy⟩, h⟩
theorem wpEagerU_skip {l : List Oper} {t : Tr} {o : Oper} {r : List (Oper × Bool)} {a : Act} {w : World} (hw : Region.wanted o (yielded ops a.tmps) = false)
    (h : wpEagerU P ops S Q l t r (a.put o.dst undef) w) : wpEagerU P ops S Q l t ((o, true) :: r) a w := ⟨undef, .inr ⟨hw, rfl⟩, h⟩
theorem wpEagerU_load {l : List Oper} {t : Tr} {op : Oper} {r : List (Oper × Bool)} {a : Act} {w : World} (hw : Region.wanted op (yielded ops a.tmps) = true) (ty : TypeId) (x : Operand) (ho : op.op = .load ty x)
    (b o : Nat) (hx : a.eval x = .pointer (some ⟨b, o, none⟩)) (M : Array Value) (d : TypeDesc) (hc : ∀ w', S w' → w'.rangeAt b o M.toList)
    (hu : P.underlying ty = some d) (hd : d.isRow = true) (hi : (P.info? ty).map (·.size) = some M.size)
    (h : wpEagerU P ops S Q l t r (a.put op.dst (.agg M)) w) : wpEagerU P ops S Q l t ((op, true) :: r) a w := by
  refine wpEagerU_take hw (fun w' hb => ?_) h
  unfold execOp
  simp only [ho, hx, Instr.loadAt, Instr.sureAddr, Sem.run_bind, Sem.run_pure, Result.andThen_ok, run_loadVar_mid w' b o ty M.toList d (hc w' hb) hu hd (by simpa using hi)]
theorem wpEagerU_op {l : List Oper} {t : Tr} {o : Oper} {r : List (Oper × Bool)} {a : Act} {w : World} (hw : Region.wanted o (yielded ops a.tmps) = true)
    (h : ∀ K : Act → World → Prop, Shut (∀ a w, S w → wpEagerU P ops S Q l t r a w → K a w) → Oper.wp P o a w K Q) : wpEagerU P ops S Q l t ((o, false) :: r) a w := by
  unfold wpEagerU; rw [if_pos hw]; exact h _ fun _ _ h1 h2 => ⟨h1, h2⟩
theorem eagerULoadAt {l : List Oper} {t : Tr} {r : List (Oper × Bool)} {a : Act} {w : World} (n : Nat) {d : Option Nat} {ty : TypeId} {t' : TypeId} {p : String} {af : Array Edge} {g : Option (Nat × Bool)} {b : Bool}
    (h : wpEagerU P ops S Q l t ((⟨d, .load ty (.tmp n), t', p, af, g⟩, b) :: r) a w) : wpEagerU P ops S Q l t ((⟨d, .load ty (.tmp n), t', p, af, g⟩, b) :: r) a w := h
end
end Go.Mir
