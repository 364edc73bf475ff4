/- PARTS, JOINED: SLOTS: the reference: Load. Conditions: sizes that fit. SLOTS: the reference: Open. Conditions: sizes that fit; a disk that is up. SLOTS: the reference: Put. Conditions: sizes that fit. -/
import Derived.Test.YtnejjfglkindjaaGreatDoorVc1
import Derived.Test.YtnejjfglkindjaaGreatDoorVc2
import Derived.Test.YtnejjfglkindjaaGreatDoorVc3
import Derived.Test.YtnejjfglkindjaaGreatDoorVc4
import Derived.Test.YtnejjfglkindjaaGreatDoorVc5
import Derived.Test.YtnejjfglkindjaaGreatDoorVc6
import Derived.Test.YtnejjfglkindjaaGreatDoorVc7
import Derived.Test.YtnejjfglkindjaaGreatDoorVc8
import Derived.Test.YtnejjfglkindjaaGreatDoorVc9
namespace Go.Proofs.YtnejjfglkindjaaGreatDoor.Slt
open Go.RowKit Go.Mir Go.Mir.Parts Dk Rol Rk Wr
open Frm (one)
def RBs (w : World) (p : Option Addr) (n c : Nat) (l : List UInt8) : Prop := ∀ y, KR 0 w y → Bs y p n c l
theorem RBs.step {w w' : World} {p : Option Addr} {n c : Nat} {l : List UInt8} (h : RBs w p n c l) (k : KR 0 w w') : RBs w' p n c l := fun y hy => h y (k.trans hy)
theorem RBs.below {w w' : World} {p : Option Addr} {n c : Nat} {l : List UInt8} (h : RBs w p n c l) (k : Below w.heap.size w w') : RBs w' p n c l := h.step (KR.of_below k)
theorem RBs.bs {w : World} {p : Option Addr} {n c : Nat} {l : List UInt8} (h : RBs w p n c l) : Bs w p n c l := h w (KR.refl 0 w)
theorem RBs.nil (w : World) : RBs w none 0 0 [] := fun _ _ => Sl.nil _ _
theorem RBs.own {w : World} {base n : Nat} {p : Option Addr} {c : Nat} {l : List UInt8} (h : w.ownsRow base 5 1 (.slice p n c) n (bytesV l)) : RBs w p n c l := fun _ hy => Cut.own_bs (hy.own h (fun hh => hh.1 rfl))
theorem RBs.drop {w : World} {p : Option Addr} {n c : Nat} {l : List UInt8} (h : RBs w p n c l) (k : Nat) (hk : k ≤ n) : RBs w (Cut.cutQ p c k) (n - k) (c - k) (l.drop k) := fun y hy => Cut.bs_drop (h y hy) k hk
def RLoadP (l : List UInt8) (w : World) (e : Ending) (w' : World) : Prop := ∃ p c, e = .returned (.tuple #[.int .u64 ((loadP l).1 : Int), .slice p (loadP l).2.length c]) ∧ RBs w' p (loadP l).2.length c (loadP l).2 ∧ Below w.heap.size w w'
set_option maxRecDepth 100000 in
set_option maxHeartbeats 3200000 in
theorem rload_any (ts : List RF) (d : DD) (i : Nat) (hi : i < 3) (w : World) (h : RDB w ts d) :
  Calls Tryz.prog 101 #[.agg (rdA ts d), .int .i64 (i : Int)] w (RLoadP (fD d i).now w) := by
 have HB1 := Lib.hid (Below.allocs w (.cells (rdA ts d) 65))
 have HROW : Hid ((w.alloc (.cells (rdA ts d) 65)).heap[w.heap.size]? = some (.cells (rdA ts d) 65 (0, 0))) := heap_alloc_last _ _
 have HR := Lib.hid (h.below HB1.out)
 have hi3i : (i : Int) < 3 := by omega
 have hti : i < ts.length := by rw [h.n3]; exact hi
 have ht : ts[i]? = some (ts[i]'hti) := List.getElem?_eq_getElem hti
 generalize ts[i]'hti = t at *
 have HF := Lib.hid (h.fd hi)
 have HT := Lib.hid ht
 have HNB : Hid ((fD d i).need ≤ 1000000) := by
  obtain ⟨t', f', _, a, _, _, b⟩ := h.at.file i hi
  rw [h.fd hi] at a
  cases a; exact b
 clear h ht hti
 go_enter Tryz.func101, Tryz.ntmps101
 go_upto_region 1 with fail
 generalize w.alloc (.cells (rdA ts d) 65) = w1 at *
 have HRG := Lib.hid (rd_range HR.out.n3 HR.out.m3 HROW.out i HT.out HF.out)
 have HHO := Lib.hid (rholds_any t (fD d i) w1 (HR.out.each i t _ HT.out HF.out).1.now HNB.out)
 have HLE : Hid ((fD d i).now.length ≤ 1000000) := Nat.le_trans (HR.out.each i t _ HT.out HF.out).1.now.ok.le HNB.out
 generalize (fD d i).now = L at *
 have HX65 := Lib.hid (one_len L)
 obtain ⟨X, hX⟩ : ∃ X, (one L).1 = X := ⟨_, rfl⟩
 obtain ⟨E, hE⟩ : ∃ E, (one L).2.2 = E := ⟨_, rfl⟩
 have HLP : Hid (loadP L = if E = 0 ∧ 8 ≤ X.length then (Rdr.beN (X.take 8), X.drop 8) else (0, [])) := by show _ = _; unfold loadP; rw [hX, hE]
 have HOX := Lib.hid hX
 have HOE := Lib.hid hE
 clear hX hE
 rw [HOX.out] at HX65
 go_wp2_with ((with_reducible refine wpAt 15 ?_); refine wpList_load_mid rfl 62 _ rfl w.heap.size (i * 2) rfl (fA t (fD d i)).toList _ HRG.out Tryz.underlying62 rfl (infoFi (fA t (fD d i)) rfl) ?_)
 try rw [Array.toArray_toList]
 refine HHO.out.mono ?_
 rintro e w5 ⟨p5, c5, rfl, ho5, hb5⟩
 have HB5 := Lib.hid (HB1.out.trans (hb5.mono HB1.out.size))
 have hon := Frm.rone_any p5 L.length c5 L w5 (Cut.own_bs ho5) (by have := HLE.out; omega)
 unfold Frm.OneP at hon
 rw [HOX.out, HOE.out] at hon
 have HON := Lib.hid hon
 clear ho5 hb5 HHO hon HB1
 go_wp2_with fail
 refine HON.out.mono ?_
 rintro e w6 ⟨p6, c6, rfl, ho6, hb6⟩
 have HB6 := Lib.hid (HB5.out.trans (hb6.mono HB5.out.size))
 have HRB := Lib.hid (RBs.own ho6)
 have HBS := Lib.hid (Cut.own_bs ho6)
 clear ho6 hb6 HON HB5
 have hle := HBS.out.le
 have hmax := HBS.out.max
 generalize (one L).2.1 = N at *
 by_cases hE0 : E = 0
 ·have he1 : (E != 0) = false := by rw [hE0]; rfl
  by_cases h8 : 8 ≤ X.length
  ·have d1 : decide ((X.length : Int) < 8) = false := decide_eq_false (by omega)
   have d2 : decide (X.length < 8) = false := decide_eq_false (by omega)
   have hlp := HLP.out
   rw [if_pos ⟨hE0, h8⟩] at hlp
   have HL2 := Lib.hid hlp
   have HLEN := Lib.hid h8
   clear hE0 hlp HLP
   go_upto_region 6 with fail
   clear d1 d2 he1
   go_loop [9, 10] (fun x j => ∃ k : Nat, k ≤ 8 ∧ j = .int .i64 k ∧ x = .int .u64 (Rdr.beN (X.take k) : Nat)) (fun _ j => 8 - (intOf j).toNat)
   case atStart => exact ⟨0, by omega, rfl, rfl⟩
   case round =>
    obtain ⟨k, hk, rfl, rfl⟩ := hrel
    by_cases hlt : k < 8
    ·have hd : decide ((k:Int) < 8) = true := decide_eq_true (by omega)
     have hd2 : decide (k < 8) = true := decide_eq_true hlt
     obtain ⟨b', o', rfl⟩ := HBS.out.addr (by omega) (by omega)
     have hkl : k < X.length := by omega
     have hc' := Bs.byte HBS.out (j := k) hkl
     have hbe := Rdr.beN_snoc (X.take k) (X[k]'hkl)
     rw [← take_snoc X k hkl] at hbe
     have hb1 := Rdr.beN_lt_pow (X.take (k + 1))
     have hb2 : 256 ^ (X.take (k + 1)).length ≤ 256 ^ 8 := Nat.pow_le_pow_right (by omega) (by rw [List.length_take]; omega)
     have hb4 : (256 : Nat) ^ 8 = 18446744073709551616 := by decide
     generalize X[k]'hkl = y at *
     have hll : y.toNat < 256 := y.toNat_lt
     generalize hB0 : Rdr.beN (X.take k) = B at *
     generalize hB2 : Rdr.beN (X.take (k + 1)) = B2 at *
     have HB2 := Lib.hid hB2
     have q1 : IntKind.u64.wrap ((256 : Int) * (B : Int)) = ((256 * B : Nat) : Int) := by rw [IntKind.wrap_u64]; omega
     have q2 : IntKind.u64.wrap (((256 * B : Nat) : Int) + (y.toNat : Int)) = (B2 : Int) := by rw [IntKind.wrap_u64]; omega
     have q3 : IntKind.u64.wrap ((256 : Int) * (B : Int) + (y.toNat : Int)) = (B2 : Int) := by rw [IntKind.wrap_u64]; omega
     have HW := Lib.hid q1
     have HW2 := Lib.hid q2
     have HW3 := Lib.hid q3
     clear hB0 hB2 hbe hb1 hb2 hb4
     go_wp2_with fail
     go_round
     case rel =>
      exact ⟨k + 1, by omega, by go_num, by first | rw [HB2.out] | (rw [HW.out, HW2.out, HB2.out]) | (rw [HW3.out, HB2.out])⟩
     case measure => simp [intOf]; omega
    ·obtain rfl : k = 8 := by omega
     have hd : decide ((8:Int) < 8) = false := by decide
     have hrun := Cut.cutR HBS.out 8 8 rfl HLEN.out
     generalize Rdr.beN (X.take 8) = TN at *
     have hrd := Lib.hid (HRB.out.drop 8 HLEN.out)
     have hdl : (X.drop 8).length = X.length - 8 := List.length_drop
     have HDL := Lib.hid hdl
     generalize X.drop 8 = RB at *
     clear hdl
     go_upto_region 9 with fail
     refine wp_region_eager [(0, true), (1, true), (2, true), (3, true), (4, true)] (by kernel_rfl) (by kernel_rfl) (eagerOpen rfl ?_)
     have hy0 : Below w6.heap.size w6 w6.drew := below_drew1 _ _
     repeat (first
      | ((first | (apply wpEager_take; (· rfl); (· (intro w' hb'; go_simp; try with_reducible rfl))) | refine wpEager_skip (by rfl) ?_ | refine wpEager_off (by rfl) ?_); (try simp only [Act.put, zA, zB, zC]); (try refine eagerOpen rfl ?_)))
     refine eagerEnd ?_
     have HB7 := Lib.hid (HB6.out.trans (hy0.mono HB6.out.size))
     have HRB7 := Lib.hid (hrd.out.below hy0)
     clear hrd hy0
     go_wp2_with fail
     go_ret2
     unfold RLoadP
     rw [HL2.out]
     refine ⟨Cut.cutQ p6 c6 8, c6 - 8, ?_, ?_, HB7.out⟩
     ·show _ = Ending.returned (.tuple #[.int .u64 (TN : Int), .slice _ RB.length _])
      rw [HDL.out]
      rfl
     ·show RBs _ _ RB.length _ RB
      rw [HDL.out]; exact HRB7.out
  ·have d1 : decide ((X.length : Int) < 8) = true := decide_eq_true (by omega)
   have d2 : decide (X.length < 8) = true := decide_eq_true (by omega)
   have hlp := HLP.out
   rw [if_neg (fun hh => h8 hh.2)] at hlp
   have HL2 := Lib.hid hlp
   clear hE0 hlp HLP h8
   go_wp2_with fail
   go_ret2
   unfold RLoadP
   rw [HL2.out]
   exact ⟨none, 0, rfl, RBs.nil _, HB6.out⟩
 ·have he1 : (E != 0) = true := bne_iff_ne.2 hE0
  have hlp := HLP.out
  rw [if_neg (fun hh => hE0 hh.1)] at hlp
  have HL2 := Lib.hid hlp
  clear hE0 hlp HLP
  go_wp2_with fail
  go_ret2
  unfold RLoadP
  rw [HL2.out]
  exact ⟨none, 0, rfl, RBs.nil _, HB6.out⟩
end Go.Proofs.YtnejjfglkindjaaGreatDoor.Slt
namespace Go.Proofs.YtnejjfglkindjaaGreatDoor.Slt
open Go.RowKit Go.Mir Go.Mir.Parts Dk Rol Rk Wr
def rsA (a b : Nat) (s : SS) (p : Option Addr) (c : Nat) : Array Value := #[.int .i64 (a : Int), .int .i64 (b : Int), .int .i64 s.now, .int .u64 (s.turn : Int), .slice p s.body.length c]
def zS : Array Value := #[.int .i64 0, .int .i64 0, .int .i64 0, .int .u64 0, .slice none 0 0]
theorem zeroRS (w : World) : (zeroValue 74).run Tryz.prog w = .ok (.agg zS) w := by kernel_rfl
theorem infoRS (n : Nat) (h : n = 5) : (Tryz.prog.info? 74).map (·.size) = some n := by subst h; kernel_rfl
theorem rsA_one (a b : Nat) (s : SS) (p : Option Addr) (c : Nat) : (rsA a b s p c).all (·.oneCell') = true := by simp [rsA, Value.oneCell']
theorem built_rs (a b : Nat) : Tryz.prog.built 74 [(0, .int .i64 (a : Int)), (1, .int .i64 (b : Int)), (2, .int .i64 (-1))] = some (rsA a b ⟨-1, 0, []⟩ none 0) := by kernel_rfl
theorem rs_cells {w : World} {g a b : Nat} {s : SS} {p : Option Addr} {c : Nat} {t : TypeId} (h : w.heap[g]? = some (.cells (rsA a b s p c) t (0, 0))) :
  w.cell? ⟨g, 0, none⟩ = some (.int .i64 (a : Int)) ∧ w.cell? ⟨g, 1, none⟩ = some (.int .i64 (b : Int)) ∧ w.cell? ⟨g, 2, none⟩ = some (.int .i64 s.now) ∧ w.cell? ⟨g, 3, none⟩ = some (.int .u64 (s.turn : Int)) ∧ w.cell? ⟨g, 4, none⟩ = some (.slice p s.body.length c) ∧ ∀ j, w.frozen? ⟨g, j, none⟩ = false := by
 refine ⟨?_, ?_, ?_, ?_, ?_, fun j => frozen_of_row _ _ j _ _ h⟩ <;> (rw [cell_of_row _ _ _ _ _ _ h]; rfl)
theorem kr_turn {base g : Nat} {a b : World} {M : Array Value} {t : TypeId} {fr : Nat × Nat} (h : Turns (fun k => k = g) a b) (hr : a.heap[g]? = some (.cells M t fr)) (h1 : t ≠ 5) (h2 : t ≠ 112) : KR base a b :=
 h.imp (fun k _ hk => by subst hk; exact ⟨_, _, _, hr, h1, h2⟩)
theorem rs_set3 {w : World} {g a b : Nat} {s : SS} {p : Option Addr} {c : Nat} (h : w.heap[g]? = some (.cells (rsA a b s p c) 74 (0, 0))) (n : Int) (t : Nat) (p' : Option Addr) (c' : Nat) (l : List UInt8) :
  (((w.setCell ⟨g, 2, none⟩ (.int .i64 n)).setCell ⟨g, 3, none⟩ (.int .u64 (t : Int))).setCell ⟨g, 4, none⟩ (.slice p' l.length c')).heap[g]? = some (.cells (rsA a b ⟨n, t, l⟩ p' c') 74 (0, 0)) ∧
   Turns (fun k => k = g) w (((w.setCell ⟨g, 2, none⟩ (.int .i64 n)).setCell ⟨g, 3, none⟩ (.int .u64 (t : Int))).setCell ⟨g, 4, none⟩ (.slice p' l.length c')) := by
 have e1 := Dk.cell_put (off := 2) (.int .i64 n) h
 have e2 := Dk.cell_put (off := 3) (.int .u64 (t : Int)) e1
 have e3 := Dk.cell_put (off := 4) (.slice p' l.length c') e2
 have t1 : Turns (fun k => k = g) w (w.setCell ⟨g, 2, none⟩ (.int .i64 n)) := Turns.setCell (S := fun k => k = g) (p := ⟨g, 2, none⟩) (Turns.refl _ w) (fun _ => rfl) (.int .i64 n)
 have t2 : Turns (fun k => k = g) w ((w.setCell ⟨g, 2, none⟩ (.int .i64 n)).setCell ⟨g, 3, none⟩ (.int .u64 (t : Int))) := Turns.setCell (S := fun k => k = g) (p := ⟨g, 3, none⟩) t1 (fun _ => rfl) (.int .u64 (t : Int))
 exact ⟨e3, Turns.setCell (S := fun k => k = g) (p := ⟨g, 4, none⟩) t2 (fun _ => rfl) (.slice p' l.length c')⟩
def ROpP (d : DD) (a b : Nat) (w : World) (e : Ending) (w' : World) : Prop := ∃ p c, e = .returned (.tuple #[.agg (rsA a b (opnS d a b) p c), .int .i64 0]) ∧ RBs w' p (opnS d a b).body.length c (opnS d a b).body ∧ Below w.heap.size w w'
theorem opn_form {d : DD} {a b n m : Nat} {x y : List UInt8} (hA : loadP (fD d a).now = (n, x)) (hB : loadP (fD d b).now = (m, y)) : opnS d a b = if n < m then ⟨(b : Int), m, y⟩ else if 0 < n then ⟨(a : Int), n, x⟩ else ⟨-1, 0, []⟩ := by
 have h1 : bet ⟨-1, 0, []⟩ a (fD d a).now = if 0 < n then ⟨(a : Int), n, x⟩ else ⟨-1, 0, []⟩ := by unfold bet; rw [hA]
 have h2 : (if 0 < n then (⟨(a : Int), n, x⟩ : SS) else ⟨-1, 0, []⟩).turn = n := by
  split
  ·rfl
  ·show 0 = n; omega
 unfold opnS
 rw [h1]
 unfold bet
 rw [hB, h2]
set_option maxRecDepth 100000 in
set_option maxHeartbeats 6400000 in
theorem ropenS_any (ts : List RF) (d : DD) (a b : Nat) (ha : a < 3) (hb : b < 3) (hne : a ≠ b) (hdn : d.down = false) (w : World) (h : RDB w ts d) :
  Calls Tryz.prog 50 #[.agg (rdA ts d), .int .i64 (a : Int), .int .i64 (b : Int)] w (ROpP d a b w) := by
 have hz := zeroRS
 obtain ⟨q1, q2, q3, q4⟩ := two_allocs w (.cells (rdA ts d) 65) (.cells zS 74)
 have HROW := Lib.hid q1
 have HZX := Lib.hid q2
 have HLOW := Lib.hid q4
 have HR := Lib.hid (h.below q4)
 have HSZ := Lib.hid q3
 have HA := Lib.hid ha
 have HB := Lib.hid hb
 obtain ⟨hc6, _, hc8, hfz⟩ := rd_cells h.n3 h.m3 q1
 rw [hdn] at hc8
 have hrm := h.room1.1
 have e1 : ((d.room : Int) == 0) = false := by rw [beq_eq_false_iff_ne]; omega
 have d1 : decide ((a : Int) < 0) = false := decide_eq_false (by omega)
 have d2 : decide ((2 : Int) < (a : Int)) = false := decide_eq_false (by omega)
 have d3 : decide (2 < a) = false := decide_eq_false (by omega)
 have d4 : decide ((b : Int) < 0) = false := decide_eq_false (by omega)
 have d5 : decide ((2 : Int) < (b : Int)) = false := decide_eq_false (by omega)
 have d6 : decide (2 < b) = false := decide_eq_false (by omega)
 have e2 : ((a : Int) == (b : Int)) = false := by rw [beq_eq_false_iff_ne]; omega
 have e3 : (a == b) = false := by rw [beq_eq_false_iff_ne]; omega
 clear q1 q2 q3 q4 h ha hb hne hdn hrm
 go_enter Tryz.func50, Tryz.ntmps50
 go_upto_region 1 with fail
 generalize (w.alloc (.cells (rdA ts d) 65)).alloc (.cells zS 74) = w2 at *
 go_upto_region 7 with fail
 clear hc6 hc8 hfz e1 d1 d2 d3 d4 d5 d6 e2 e3
 go_upto_region 8 with (first
  | refine Rdr.wpList_build rfl 74 _ rfl [(0, .int .i64 (a : Int)), (1, .int .i64 (b : Int)), (2, .int .i64 (-1))] rfl _ (built_rs a b) ?_
  | refine wpList_store_row rfl 74 _ _ rfl w2.heap.size (rsA a b ⟨-1, 0, []⟩ none 0) rfl rfl 74 zS (heap_alloc_last _ _) (infoRS _ rfl) rfl (rsA_one _ _ _ _ _) ?_)
 try simp only [Act.put]
 have hb3 : Below w2.heap.size w2 ((w2.alloc (.cells zS 74)).setRow w2.heap.size (rsA a b ⟨-1, 0, []⟩ none 0)) := below_setRow (Below.allocs w2 _) (Nat.le_refl _) _
 have HSR := Lib.hid (setRow_heap _ _ _ (rsA a b ⟨-1, 0, []⟩ none 0) _ _ (heap_alloc_last w2 (.cells zS 74)))
 have hlow := HLOW.out.trans (hb3.mono HLOW.out.size)
 have hrow := Below.keepOld hb3 HROW.out
 have hzx := Below.keepOld hb3 HZX.out
 have hr3 := HR.out.below hb3
 clear HLOW HROW HZX HR hb3
 generalize (w2.alloc (.cells zS 74)).setRow w2.heap.size (rsA a b ⟨-1, 0, []⟩ none 0) = w3 at *
 generalize w2.heap.size = g8 at *
 have HG8 : Hid (w.heap.size + 2 ≤ g8) := by show _ ≤ _; rw [HSZ.out]; exact Nat.le_refl _
 have HRL := Lib.hid (rload_any ts d a HA.out w3 hr3)
 go_wp2_with (refine wpList_load_row rfl 65 _ rfl w.heap.size rfl 65 (rdA ts d) (0, 0) _ hrow Tryz.underlying65 rfl (infoRD _ (rdA_size hr3.n3 hr3.m3)) ?_)
 refine HRL.out.mono ?_
 rintro e w4 ⟨p4, c4, rfl, hrb4, hb4⟩
 have hl4 := hlow.trans (hb4.mono hlow.size)
 have hw4 := Below.keepOld hb4 hrow
 have hz4 := Below.keepOld hb4 hzx
 have hr4 := hr3.below hb4
 have hs4 := Below.keepOld hb4 HSR.out
 have HRL4 := Lib.hid (rload_any ts d b HB.out w4 hr4)
 clear hlow hrow hzx hr3 HSR HRL hb4
 go_wp2_with (refine wpList_load_row rfl 65 _ rfl w.heap.size rfl 65 (rdA ts d) (0, 0) _ hw4 Tryz.underlying65 rfl (infoRD _ (rdA_size hr4.n3 hr4.m3)) ?_)
 refine HRL4.out.mono ?_
 rintro e w5 ⟨p5, c5, rfl, hrb5, hb5⟩
 have HLOW := Lib.hid (hl4.trans (hb5.mono hl4.size))
 have HZX := Lib.hid (Below.keepOld hb5 hz4)
 have HSR := Lib.hid (Below.keepOld hb5 hs4)
 have HB4 := Lib.hid (hrb4.below hb5)
 have HB5 := Lib.hid hrb5
 clear hl4 hw4 hz4 hr4 hs4 HRL4 hrb4 hrb5 hb5
 have hof := fun n x m y => @opn_form d a b n m x y
 obtain ⟨SE, hSE⟩ : ∃ SE, opnS d a b = SE := ⟨_, rfl⟩
 have HSE := Lib.hid hSE
 rw [hSE] at hof
 clear hSE
 generalize hA : loadP (fD d a).now = LA at *
 generalize hB : loadP (fD d b).now = LB at *
 obtain ⟨n, x⟩ := LA
 obtain ⟨m, y⟩ := LB
 have HF := Lib.hid (hof n x m y rfl rfl)
 have HB4 : Hid (RBs w5 p4 x.length c4 x) := HB4
 have HB5 : Hid (RBs w5 p5 y.length c5 y) := HB5
 clear hof hA hB
 dsimp only
 by_cases hnm : n < m
 ·have n1 : decide ((n : Int) < (m : Int)) = true := decide_eq_true (by omega)
  have n2 : decide (n < m) = true := decide_eq_true hnm
  have hfe := HF.out
  rw [if_pos hnm] at hfe
  by_cases h0 : 0 < n
  ·have n3 : decide ((0 : Int) < (n : Int)) = true := decide_eq_true (by omega)
   have n4 : decide (0 < n) = true := decide_eq_true h0
   clear hnm h0 HF
   skip
   have hset := rs_set3 HSR.out (a : Int) n p4 c4 x
   obtain ⟨_, _, q2, q3, q4, hfz⟩ := rs_cells HSR.out
   have HSET := Lib.hid hset
   have HSRO := HSR
   clear hset HSR
   go_upto_region 14 with fail
   clear q2 q3 q4 hfz
   have HSR := Lib.hid HSET.out.1
   have HKR := Lib.hid (kr_turn (base := 0) HSET.out.2 HSRO.out (by decide) (by decide))
   have hlow := HLOW.out.trans (HSET.out.2.below HLOW.out.size (fun k hk => by have hk : k = g8 := hk; have := HG8.out; omega))
   have hzx := HSET.out.2.keep HZX.out (by show ¬ w.heap.size + 1 = g8; have := HG8.out; omega)
   clear HLOW HZX HSET HSRO
   have HLOW := Lib.hid hlow
   have HZX := Lib.hid hzx
   clear hlow hzx
   generalize ((w5.setCell ⟨g8, 2, none⟩ (.int .i64 ((a : Int)))).setCell ⟨g8, 3, none⟩ (.int .u64 (n : Int))).setCell ⟨g8, 4, none⟩ (.slice p4 x.length c4) = w6 at *
   have HB5 := Lib.hid (HB5.out.step HKR.out)
   clear HKR HB4
   skip
   have hset := rs_set3 HSR.out (b : Int) m p5 c5 y
   obtain ⟨_, _, q2, q3, q4, hfz⟩ := rs_cells HSR.out
   have HSET := Lib.hid hset
   have HSRO := HSR
   clear hset HSR
   go_upto_region 18 with fail
   clear q2 q3 q4 hfz
   have HSR := Lib.hid HSET.out.1
   have HKR := Lib.hid (kr_turn (base := 0) HSET.out.2 HSRO.out (by decide) (by decide))
   have hlow := HLOW.out.trans (HSET.out.2.below HLOW.out.size (fun k hk => by have hk : k = g8 := hk; have := HG8.out; omega))
   have hzx := HSET.out.2.keep HZX.out (by show ¬ w.heap.size + 1 = g8; have := HG8.out; omega)
   clear HLOW HZX HSET HSRO
   have HLOW := Lib.hid hlow
   have HZX := Lib.hid hzx
   clear hlow hzx
   generalize ((w6.setCell ⟨g8, 2, none⟩ (.int .i64 ((b : Int)))).setCell ⟨g8, 3, none⟩ (.int .u64 (m : Int))).setCell ⟨g8, 4, none⟩ (.slice p5 y.length c5) = w7 at *
   have HBB := Lib.hid (HB5.out.step HKR.out)
   clear HKR n1 n2 n3 n4
   subst hfe
   skip
   go_wp2_with (first
    | refine wpList_load_row rfl 74 _ rfl g8 rfl 74 (rsA a b (⟨(b : Int), m, y⟩ : SS) p5 c5) (0, 0) _ HSR.out Tryz.underlying74 rfl (infoRS _ rfl) ?_
    | refine wpList_store_row rfl 74 _ _ rfl (w.heap.size + 1) (rsA a b (⟨(b : Int), m, y⟩ : SS) p5 c5) rfl rfl 74 zS HZX.out (infoRS _ rfl) rfl (rsA_one _ _ _ _ _) ?_)
   have HS := Lib.hid (setRow_heap _ _ _ (rsA a b (⟨(b : Int), m, y⟩ : SS) p5 c5) _ _ HZX.out)
   refine bodyPost_ret (results_cell_tmp2 rfl _ _ _ _ _ _ _ rfl HS.out Tryz.underlying74 rfl (infoRS _ rfl)) rfl ?_
   exact ⟨p5, c5, by rw [HSE.out]; rfl, by rw [HSE.out]; exact HBB.out.step (kr_turn (turns_setRow _ _ _) HZX.out (by decide) (by decide)), below_setRow HLOW.out (by omega) _⟩
  ·have n3 : decide ((0 : Int) < (n : Int)) = false := decide_eq_false (by omega)
   have n4 : decide (0 < n) = false := decide_eq_false h0
   clear hnm h0 HF
   go_upto_region 14 with fail
   skip
   have hset := rs_set3 HSR.out (b : Int) m p5 c5 y
   obtain ⟨_, _, q2, q3, q4, hfz⟩ := rs_cells HSR.out
   have HSET := Lib.hid hset
   have HSRO := HSR
   clear hset HSR
   go_upto_region 18 with fail
   clear q2 q3 q4 hfz
   have HSR := Lib.hid HSET.out.1
   have HKR := Lib.hid (kr_turn (base := 0) HSET.out.2 HSRO.out (by decide) (by decide))
   have hlow := HLOW.out.trans (HSET.out.2.below HLOW.out.size (fun k hk => by have hk : k = g8 := hk; have := HG8.out; omega))
   have hzx := HSET.out.2.keep HZX.out (by show ¬ w.heap.size + 1 = g8; have := HG8.out; omega)
   clear HLOW HZX HSET HSRO
   have HLOW := Lib.hid hlow
   have HZX := Lib.hid hzx
   clear hlow hzx
   generalize ((w5.setCell ⟨g8, 2, none⟩ (.int .i64 ((b : Int)))).setCell ⟨g8, 3, none⟩ (.int .u64 (m : Int))).setCell ⟨g8, 4, none⟩ (.slice p5 y.length c5) = w7 at *
   have HBB := Lib.hid (HB5.out.step HKR.out)
   clear HKR n1 n2 n3 n4
   subst hfe
   skip
   go_wp2_with (first
    | refine wpList_load_row rfl 74 _ rfl g8 rfl 74 (rsA a b (⟨(b : Int), m, y⟩ : SS) p5 c5) (0, 0) _ HSR.out Tryz.underlying74 rfl (infoRS _ rfl) ?_
    | refine wpList_store_row rfl 74 _ _ rfl (w.heap.size + 1) (rsA a b (⟨(b : Int), m, y⟩ : SS) p5 c5) rfl rfl 74 zS HZX.out (infoRS _ rfl) rfl (rsA_one _ _ _ _ _) ?_)
   have HS := Lib.hid (setRow_heap _ _ _ (rsA a b (⟨(b : Int), m, y⟩ : SS) p5 c5) _ _ HZX.out)
   refine bodyPost_ret (results_cell_tmp2 rfl _ _ _ _ _ _ _ rfl HS.out Tryz.underlying74 rfl (infoRS _ rfl)) rfl ?_
   exact ⟨p5, c5, by rw [HSE.out]; rfl, by rw [HSE.out]; exact HBB.out.step (kr_turn (turns_setRow _ _ _) HZX.out (by decide) (by decide)), below_setRow HLOW.out (by omega) _⟩
 ·have n1 : decide ((n : Int) < (m : Int)) = false := decide_eq_false (by omega)
  have n2 : decide (n < m) = false := decide_eq_false hnm
  have hfe := HF.out
  rw [if_neg hnm] at hfe
  by_cases h0 : 0 < n
  ·have n3 : decide ((0 : Int) < (n : Int)) = true := decide_eq_true (by omega)
   have n4 : decide (0 < n) = true := decide_eq_true h0
   rw [if_pos h0] at hfe
   clear hnm h0 HF
   skip
   have hset := rs_set3 HSR.out (a : Int) n p4 c4 x
   obtain ⟨_, _, q2, q3, q4, hfz⟩ := rs_cells HSR.out
   have HSET := Lib.hid hset
   have HSRO := HSR
   clear hset HSR
   go_upto_region 14 with fail
   clear q2 q3 q4 hfz
   have HSR := Lib.hid HSET.out.1
   have HKR := Lib.hid (kr_turn (base := 0) HSET.out.2 HSRO.out (by decide) (by decide))
   have hlow := HLOW.out.trans (HSET.out.2.below HLOW.out.size (fun k hk => by have hk : k = g8 := hk; have := HG8.out; omega))
   have hzx := HSET.out.2.keep HZX.out (by show ¬ w.heap.size + 1 = g8; have := HG8.out; omega)
   clear HLOW HZX HSET HSRO
   have HLOW := Lib.hid hlow
   have HZX := Lib.hid hzx
   clear hlow hzx
   generalize ((w5.setCell ⟨g8, 2, none⟩ (.int .i64 ((a : Int)))).setCell ⟨g8, 3, none⟩ (.int .u64 (n : Int))).setCell ⟨g8, 4, none⟩ (.slice p4 x.length c4) = w6 at *
   have HBB := Lib.hid (HB4.out.step HKR.out)
   clear HKR HB5
   go_upto_region 18 with fail
   clear n1 n2 n3 n4
   subst hfe
   skip
   go_wp2_with (first
    | refine wpList_load_row rfl 74 _ rfl g8 rfl 74 (rsA a b (⟨(a : Int), n, x⟩ : SS) p4 c4) (0, 0) _ HSR.out Tryz.underlying74 rfl (infoRS _ rfl) ?_
    | refine wpList_store_row rfl 74 _ _ rfl (w.heap.size + 1) (rsA a b (⟨(a : Int), n, x⟩ : SS) p4 c4) rfl rfl 74 zS HZX.out (infoRS _ rfl) rfl (rsA_one _ _ _ _ _) ?_)
   have HS := Lib.hid (setRow_heap _ _ _ (rsA a b (⟨(a : Int), n, x⟩ : SS) p4 c4) _ _ HZX.out)
   refine bodyPost_ret (results_cell_tmp2 rfl _ _ _ _ _ _ _ rfl HS.out Tryz.underlying74 rfl (infoRS _ rfl)) rfl ?_
   exact ⟨p4, c4, by rw [HSE.out]; rfl, by rw [HSE.out]; exact HBB.out.step (kr_turn (turns_setRow _ _ _) HZX.out (by decide) (by decide)), below_setRow HLOW.out (by omega) _⟩
  ·have n3 : decide ((0 : Int) < (n : Int)) = false := decide_eq_false (by omega)
   have n4 : decide (0 < n) = false := decide_eq_false h0
   rw [if_neg h0] at hfe
   clear hnm h0 HF
   have HBB := Lib.hid (RBs.nil w5)
   go_upto_region 18 with fail
   clear n1 n2 n3 n4
   subst hfe
   skip
   go_wp2_with (first
    | refine wpList_load_row rfl 74 _ rfl g8 rfl 74 (rsA a b (⟨-1, 0, []⟩ : SS) none 0) (0, 0) _ HSR.out Tryz.underlying74 rfl (infoRS _ rfl) ?_
    | refine wpList_store_row rfl 74 _ _ rfl (w.heap.size + 1) (rsA a b (⟨-1, 0, []⟩ : SS) none 0) rfl rfl 74 zS HZX.out (infoRS _ rfl) rfl (rsA_one _ _ _ _ _) ?_)
   have HS := Lib.hid (setRow_heap _ _ _ (rsA a b (⟨-1, 0, []⟩ : SS) none 0) _ _ HZX.out)
   refine bodyPost_ret (results_cell_tmp2 rfl _ _ _ _ _ _ _ rfl HS.out Tryz.underlying74 rfl (infoRS _ rfl)) rfl ?_
   exact ⟨none, 0, by rw [HSE.out]; rfl, by rw [HSE.out]; exact HBB.out.step (kr_turn (turns_setRow _ _ _) HZX.out (by decide) (by decide)), below_setRow HLOW.out (by omega) _⟩
end Go.Proofs.YtnejjfglkindjaaGreatDoor.Slt
namespace Go.Proofs.YtnejjfglkindjaaGreatDoor.Slt
open Go.RowKit Go.Mir Go.Mir.Parts Dk Rol Rk Wr
open Frm (frame)
theorem results_cells2_tmp {P : Program} {fn : Func} {p q r : Tmp} {ty ty' : TypeId} (h : fn.results = #[.cell p ty, .cell q ty', .tmp r]) (tmps : Array Value) (w : World) (g g' : Nat) (t t' : TypeId) (cs cs' : Array Value) (fr fr' : Nat × Nat) (d d' : TypeDesc)
  (hp : tmps.getD p undef = .pointer (some ⟨g, 0, none⟩)) (hq : tmps.getD q undef = .pointer (some ⟨g', 0, none⟩)) (hg : w.heap[g]? = some (.cells cs t fr)) (hg' : w.heap[g']? = some (.cells cs' t' fr'))
  (hu : P.underlying ty = some d) (hd : (match d with | .struct _ | .array _ _ => true | _ => false) = true) (hi : (P.info? ty).map (·.size) = some cs.size)
  (hu' : P.underlying ty' = some d') (hd' : (match d' with | .struct _ | .array _ _ => true | _ => false) = true) (hi' : (P.info? ty').map (·.size) = some cs'.size) :
  (results fn tmps).run P w = .ok (.tuple #[.agg cs, .agg cs', tmps.getD r undef]) w := by
 have hp' : tmps[p]?.getD undef = .pointer (some ⟨g, 0, none⟩) := by simpa using hp
 have hq' : tmps[q]?.getD undef = .pointer (some ⟨g', 0, none⟩) := by simpa using hq
 simp [results, h, hp', hq', asAddr, run_loadVar_row w g t ty cs fr d hg hu hd hi, run_loadVar_row w g' t' ty' cs' fr' d' hg' hu' hd' hi']
structure PQ (w : World) (a b : Nat) (T : List RF) (D : DD) (s : SS) (p : Option Addr) (c : Nat) (X : World) : Prop where
 r3 : X.heap[w.heap.size]? = some (.cells (rdA T D) 65 (0, 0))
 r4 : X.heap[w.heap.size + 1]? = some (.cells (rsA a b s p c) 74 (0, 0))
 r6 : X.heap[w.heap.size + 2]? = some (.cells zD 65 (0, 0))
 r7 : X.heap[w.heap.size + 3]? = some (.cells zS 74 (0, 0))
 rd : RDB X T D
 rb : RBs X p s.body.length c s.body
 low : Below w.heap.size w X
theorem PQ.next {w : World} {a b : Nat} {T : List RF} {D : DD} {s : SS} {p : Option Addr} {c : Nat} {X Y : World} (h : PQ w a b T D s p c X) (hb : Below X.heap.size X Y) : PQ w a b T D s p c Y :=
 ⟨Below.keepOld hb h.r3, Below.keepOld hb h.r4, Below.keepOld hb h.r6, Below.keepOld hb h.r7, h.rd.below hb, h.rb.below hb, h.low.trans (hb.mono h.low.size)⟩
theorem PQ.disk {w : World} {a b : Nat} {T T' : List RF} {D D' : DD} {s : SS} {p : Option Addr} {c : Nat} {X : World} (h : PQ w a b T D s p c X) (hr : RDB X T' D') : PQ w a b T' D' s p c (X.setRow w.heap.size (rdA T' D')) := by
 have hk : KR 0 X (X.setRow w.heap.size (rdA T' D')) := kr_turn (turns_setRow _ _ _) h.r3 (by decide) (by decide)
 exact ⟨setRow_heap _ _ _ _ _ _ h.r3, by rw [setRow_other _ _ _ _ (by omega)]; exact h.r4, by rw [setRow_other _ _ _ _ (by omega)]; exact h.r6, by rw [setRow_other _ _ _ _ (by omega)]; exact h.r7, hr.step hk, h.rb.step hk, below_setRow h.low (Nat.le_refl _) _⟩
theorem PQ.cell {w : World} {a b : Nat} {T : List RF} {D : DD} {s s' : SS} {p p' : Option Addr} {c c' : Nat} {X : World} (h : PQ w a b T D s p c X) (off : Nat) (v : Value) (hv : (rsA a b s p c).setIfInBounds off v = rsA a b s' p' c') (hb : RBs X p' s'.body.length c' s'.body) :
  PQ w a b T D s' p' c' (X.setCell ⟨w.heap.size + 1, off, none⟩ v) := by
 have e1 := Dk.cell_put (off := off) v h.r4
 have t1 : Turns (fun k => k = w.heap.size + 1) X (X.setCell ⟨w.heap.size + 1, off, none⟩ v) := Turns.setCell (S := fun k => k = w.heap.size + 1) (p := ⟨w.heap.size + 1, off, none⟩) (Turns.refl _ X) (fun _ => rfl) v
 have hk : KR 0 X _ := kr_turn t1 h.r4 (by decide) (by decide)
 rw [hv] at e1
 exact ⟨t1.keep h.r3 (by omega), e1, t1.keep h.r6 (by omega), t1.keep h.r7 (by omega), h.rd.step hk, hb.step hk, h.low.trans (t1.below h.low.size (fun k hk => by have hk : k = w.heap.size + 1 := hk; omega))⟩
theorem four_boxes (w : World) (a b : Nat) (T : List RF) (D : DD) (s : SS) (p : Option Addr) (c : Nat) (hR : RDB w T D) (hB : RBs w p s.body.length c s.body) :
  PQ w a b T D s p c ((((w.alloc (.cells (rdA T D) 65)).alloc (.cells (rsA a b s p c) 74)).alloc (.cells zD 65)).alloc (.cells zS 74)) := by
 obtain ⟨a1, a2, a3, a4⟩ := two_allocs w (.cells (rdA T D) 65) (.cells (rsA a b s p c) 74)
 generalize (w.alloc (.cells (rdA T D) 65)).alloc (.cells (rsA a b s p c) 74) = w1 at *
 obtain ⟨b1, b2, b3, b4⟩ := two_allocs w1 (.cells zD 65) (.cells zS 74)
 rw [a3] at b1 b2
 have hb := a4.trans (b4.mono a4.size)
 exact ⟨Below.keepOld b4 a1, Below.keepOld b4 a2, b1, b2, (hR.below a4).below b4, (hB.below a4).below b4, hb⟩
def RPuP (d : DD) (s : SS) (a b : Nat) (x : List UInt8) (w : World) (e : Ending) (w' : World) : Prop := ∃ ts p c, e = .returned (.tuple #[.agg (rdA ts (putSD d s a b x)), .agg (rsA a b (putSS d s a b x) p c), .int .i64 (putSE d s a b x)]) ∧ RDB w' ts (putSD d s a b x) ∧ RBs w' p (putSS d s a b x).body.length c (putSS d s a b x).body ∧ Below w.heap.size w w'
theorem used_doD {d : DD} {i : Nat} {s : St} (hi : i < d.fs.length) (h : usedL d.fs ≤ d.room) : usedL (doD d i (fD d i) s).fs ≤ (doD d i (fD d i) s).room := by
 unfold doD
 split
 ·exact h
 ·split
  ·exact h
  ·rename_i h1 h2
   rw [(Rk.burn_fs _).1, (Rk.burn_fs _).2]
   have := used_take (s := s) hi (fD_eq hi)
   show usedL (setF d i ((fD d i).take s)).fs ≤ d.room
   omega
theorem used_synD {d : DD} {i : Nat} (hi : i < d.fs.length) (hok : (fD d i).Ok) (h : usedL d.fs ≤ d.room) : usedL (syncD d i (fD d i)).fs ≤ (syncD d i (fD d i)).room := by
 unfold syncD
 split
 ·exact h
 ·split
  ·rw [(Rk.burn_fs _).1, (Rk.burn_fs _).2]; exact h
  ·have h1 := used_setF (d := d.burn) (i := i) (by rw [(Rk.burn_fs _).1]; exact hi) ((fD d i).settle (unitsAll (fD d i).steps))
   have h2 : ((fD d i).settle (unitsAll (fD d i).steps)).need ≤ (fD d i).need := hok.all _
   have hfb : fD d.burn i = fD d i := by unfold fD; rw [(Rk.burn_fs _).1]
   rw [hfb, (Rk.burn_fs _).1] at h1
   show usedL (setF d.burn i _).fs ≤ d.burn.room
   rw [(Rk.burn_fs _).2]
   omega
theorem RDB.okF {w : World} {T : List RF} {D : DD} (h : RDB w T D) {i : Nat} (hi : i < 3) : (fD D i).Ok := by
 have ht : i < T.length := by rw [h.n3]; exact hi
 exact (h.each i _ _ (List.getElem?_eq_getElem ht) (h.fd hi)).1.now.ok
def Pnd (d : DD) (s : SS) (a b : Nat) (x : List UInt8) (i : Nat) (L : List LA) (D : DD) : Prop :=
 putSD d s a b x = layD i L D ∧ putSE d s a b x = layE i L D ∧ putSS d s a b x = if layE i L D = 0 then ⟨(i : Int), s.turn + 1, x⟩ else s
theorem Pnd.ok {d : DD} {s : SS} {a b : Nat} {x : List UInt8} {i : Nat} {A : LA} {L : List LA} {D : DD} (h : Pnd d s a b x i (A :: L) D) (he : stpE D i A = 0) : Pnd d s a b x i L (stpD D i A) := by
 obtain ⟨e1, e2⟩ := lay_ok (r := L) he
 unfold Pnd at h ⊢
 rwa [e1, e2] at h
theorem Pnd.no {d : DD} {s : SS} {a b : Nat} {x : List UInt8} {i : Nat} {A : LA} {L : List LA} {D : DD} (h : Pnd d s a b x i (A :: L) D) (he : ¬ stpE D i A = 0) : putSD d s a b x = stpD D i A ∧ putSS d s a b x = s ∧ putSE d s a b x = stpE D i A := by
 obtain ⟨e1, e2⟩ := lay_no (r := L) he
 unfold Pnd at h
 rw [e1, e2, if_neg he] at h
 exact ⟨h.1, h.2.2, h.2.1⟩
theorem Pnd.end {d : DD} {s : SS} {a b : Nat} {x : List UInt8} {i : Nat} {D : DD} (h : Pnd d s a b x i [] D) : putSD d s a b x = D ∧ putSS d s a b x = ⟨(i : Int), s.turn + 1, x⟩ ∧ putSE d s a b x = 0 := ⟨h.1, h.2.2, h.2.1⟩
structure Gd (D : DD) (N : Nat) : Prop where
 used : usedL D.fs ≤ D.room
 few : FewD D N
theorem fewfd {d : DD} {N i : Nat} (h : FewD d N) : (fD d i).steps.length ≤ N := by
 unfold fD
 cases hf : d.fs[i]? with
 | none => exact Nat.zero_le _
 | some f => exact h f (List.mem_of_getElem? hf)
theorem Gd.did {D : DD} {N i : Nat} (h : Gd D N) (hi : i < D.fs.length) (s : St) : Gd (doD D i (fD D i) s) (N + 1) := ⟨used_doD hi h.used, h.few.doD (fewfd h.few)⟩
theorem Gd.synd {D : DD} {N i : Nat} (h : Gd D N) (hi : i < D.fs.length) (hok : (fD D i).Ok) : Gd (syncD D i (fD D i)) N := ⟨used_synD hi hok h.used, h.few.syncD⟩
theorem number8 (w : World) (n : Nat) (hn : n < 18446744073709551616) :
  Calls Tryz.prog 22 #[.int .u64 (n : Int), .int .i64 8] w fun e w' => ∃ p c, e = .returned (.slice p 8 c) ∧ w'.ownsRow w.heap.size 5 1 (.slice p 8 c) 8 (bytesV (be n 8)) ∧ Below w.heap.size w w' := by
 refine (Rdr.number_any w n 8 hn (by omega)).mono ?_
 rintro e w' ⟨p, c, he, ho, hb⟩
 rw [← Cod.be_numB _ _ (by omega), be_length] at he ho
 exact ⟨p, c, he, ho, hb⟩
theorem loadMidG {P : Program} {ops : Array Oper} {rest : List Oper} {op : Oper} {a : Act} {w : World} {Q : Exit → Act → World → Prop} (hw : Region.wanted op (yielded ops a.tmps) = true) (ty : TypeId) (x : Operand) (ho : op.op = .load ty x)
  (b o : Nat) (hx : a.eval x = .pointer (some ⟨b, o, none⟩)) (M : Array Value) (d : TypeDesc) (hc : w.rangeAt b o M.toList)
  (hu : P.underlying ty = some d) (hd : d.isRow = true) (hi : (P.info? ty).map (·.size) = some M.size)
  (h : wpList P ops Q rest (a.put op.dst (.agg M)) w) : wpList P ops Q (op :: rest) a w :=
 wpList_unguard hw (wpList_load_mid rfl ty x ho b o hx M.toList d hc hu hd (by rw [Array.length_toList]; exact hi) (by rw [Array.toArray_toList]; exact h))
set_option maxRecDepth 100000 in
set_option maxHeartbeats 6400000 in
theorem rputS_any (ts : List RF) (d : DD) (s : SS) (a b N : Nat) (ha : a < 3) (hb : b < 3) (p : Option Addr) (c : Nat) (w : World) (hR : RDB w ts d) (hB : RBs w p s.body.length c s.body) (hg : Gd d N) (hN : N ≤ 4398046000000 / 4) (q : Option Addr) (x : List UInt8) (k : Nat) (hx : Bs w q x.length k x) (hxl : x.length ≤ 3000) (hst : s.turn < 18446744073709551616) :
  Calls Tryz.prog 60 #[.agg (rdA ts d), .agg (rsA a b s p c), .slice q x.length k] w (RPuP d s a b x w) := by
 have hz := zeroD
 have hz2 := zeroRS
 have HPQ := Lib.hid (four_boxes w a b ts d s p c hR hB)
 have HB4 := Lib.hid HPQ.out.low
 have HX := Lib.hid hx
 have d1 : decide ((65528 : Int) < (x.length : Int)) = false := decide_eq_false (by omega)
 have d2 : decide (65528 < x.length) = false := decide_eq_false (by omega)
 have HG := Lib.hid hg
 have hqx := hx.le
 have hqm := hx.max
 clear hR hB hx hg
 go_enter Tryz.func60, Tryz.ntmps60
 go_upto_region 1 with fail
 generalize ((((w.alloc (.cells (rdA ts d) 65)).alloc (.cells (rsA a b s p c) 74)).alloc (.cells zD 65)).alloc (.cells zS 74)) = w4 at *
 obtain ⟨c0, c1, c2, c3, c4, hfz⟩ := rs_cells HPQ.out.r4
 by_cases ht : s.turn + 1 < 18446744073709551616
 rotate_left
 ·have hw : IntKind.u64.wrap ((s.turn : Int) + 1) = 0 := by rw [IntKind.wrap_u64]; omega
  have HFIN : Hid (putSD d s a b x = d ∧ putSS d s a b x = s ∧ putSE d s a b x = 1) := by
   have hf : fits s x = false := by unfold fits; rw [decide_eq_false ht]; simp
   unfold putSD putSS putSE
   rw [hf]
   exact ⟨rfl, rfl, rfl⟩
  clear ht
  go_upto_region 2 with fail
  clear c0 c1 c2 c3 c4 hfz
  skip
  have HL3 : Hid (∀ w', Turns (fun k => k = w.heap.size + 2 ∨ k = w.heap.size + 3) w4 w' → w'.rangeAt w.heap.size 0 (rdA ts d).toList) := fun w' hb => row_rangeR (hb.keep HPQ.out.r3 (by rintro (h | h) <;> omega))
  have HL4 : Hid (∀ w', Turns (fun k => k = w.heap.size + 2 ∨ k = w.heap.size + 3) w4 w' → w'.rangeAt (w.heap.size + 1) 0 (rsA a b s p c).toList) := fun w' hb => row_rangeR (hb.keep HPQ.out.r4 (by rintro (h | h) <;> omega))
  refine wp_region_tree (Turns (fun k => k = w.heap.size + 2 ∨ k = w.heap.size + 3) w4) (.take 0 (.take 1 (.one 2 (.one 3 (.one 4 .nil))))) (by kernel_rfl) (by kernel_rfl) (Turns.of_below (below_drew1 _ _)) ?_
  have hy0 : Below w4.heap.size w4 w4.drew := below_drew1 _ _
  refine tree_load rfl (by rfl) 65 _ rfl w.heap.size 0 rfl (rdA ts d) _ (fun w' hb => HL3.out w' hb) Tryz.underlying65 rfl (infoRD _ (rdA_size HPQ.out.rd.n3 HPQ.out.rd.m3)) ?_
  try simp only [Act.put, zA, zB, zC]
  refine tree_load rfl (by rfl) 74 _ rfl (w.heap.size + 1) 0 rfl (rsA a b s p c) _ (fun w' hb => HL4.out w' hb) Tryz.underlying74 rfl (infoRS _ rfl) ?_
  try simp only [Act.put, zA, zB, zC]
  repeat (apply tree_take; (· rfl); (· rfl); (· (intro w' hb'; go_simp; try with_reducible rfl)); try simp only [Act.put, zA, zB, zC])
  have hq1 := HPQ.out.next hy0
  have ht0 : Turns (fun k => k = w.heap.size + 2 ∨ k = w.heap.size + 3) w4 w4.drew := Turns.of_below hy0
  clear HL3 HL4 HPQ hy0
  generalize w4.drew = wD at *
  refine tree_one rfl (by rfl) (fun K hK => oper_of_list rfl ?_)
  refine wpList_store_row rfl 65 _ _ rfl (w.heap.size + 2) (rdA ts d) rfl rfl 65 zD hq1.r6 (infoRD _ (rdA_size hq1.rd.n3 hq1.rd.m3)) (by rw [rdA_size hq1.rd.n3 hq1.rd.m3]; rfl) (rdA_one hq1.rd.n3 hq1.rd.m3) ?_
  have ht1 := ht0.trans (turns_setRow wD (w.heap.size + 2) (rdA ts d)) (fun k _ hk => .inl hk)
  refine only_end (Shut.out hK _ _ ht1 ?_)
  clear hK K
  try simp only [Act.put]
  have hr7 : (wD.setRow (w.heap.size + 2) (rdA ts d)).heap[w.heap.size + 3]? = some (.cells zS 74 (0, 0)) := by rw [setRow_other _ _ _ _ (by omega)]; exact hq1.r7
  refine tree_one rfl (by rfl) (fun K hK => oper_of_list rfl ?_)
  refine wpList_store_row rfl 74 _ _ rfl (w.heap.size + 3) (rsA a b s p c) rfl rfl 74 zS hr7 (infoRS _ rfl) rfl (rsA_one _ _ _ _ _) ?_
  have ht2 := ht1.trans (turns_setRow (wD.setRow (w.heap.size + 2) (rdA ts d)) (w.heap.size + 3) (rsA a b s p c)) (fun k _ hk => .inr hk)
  refine only_end (Shut.out hK _ _ ht2 ?_)
  clear hK K
  try simp only [Act.put]
  refine tree_one rfl (by rfl) (fun K hK => ?_)
  go_simp
  refine Shut.out hK _ _ ht2 ?_
  clear hK K
  try simp only [Act.put, zA, zB, zC]
  refine tree_nil ?_
  go_wp2_with fail
  have hs1 : ((wD.setRow (w.heap.size + 2) (rdA ts d)).setRow (w.heap.size + 3) (rsA a b s p c)).heap[w.heap.size + 2]? = some (.cells (rdA ts d) 65 (0, 0)) := by rw [setRow_other _ _ _ _ (by omega)]; exact setRow_heap _ _ _ _ _ _ hq1.r6
  have hs2 := setRow_heap _ _ _ (rsA a b s p c) _ _ hr7
  have hk : KR 0 wD ((wD.setRow (w.heap.size + 2) (rdA ts d)).setRow (w.heap.size + 3) (rsA a b s p c)) := (kr_turn (turns_setRow _ _ _) hq1.r6 (by decide) (by decide)).trans (kr_turn (turns_setRow _ _ _) hr7 (by decide) (by decide))
  refine bodyPost_ret (results_cells2_tmp rfl _ _ _ _ _ _ _ _ _ _ _ _ rfl rfl hs1 hs2 Tryz.underlying65 rfl (infoRD _ (rdA_size hq1.rd.n3 hq1.rd.m3)) Tryz.underlying74 rfl (infoRS _ rfl)) rfl ?_
  obtain ⟨f1, f2, f3⟩ := HFIN.out
  unfold RPuP
  rw [f1, f2, f3]
  exact ⟨ts, p, c, rfl, hq1.rd.step hk, hq1.rb.step hk, below_setRow (below_setRow hq1.low (by omega) _) (by omega) _⟩
 ·have hw : IntKind.u64.wrap ((s.turn : Int) + 1) = ((s.turn + 1 : Nat) : Int) := by rw [IntKind.wrap_u64]; omega
  have hne : (((s.turn + 1 : Nat) : Int) == 0) = false := by rw [beq_eq_false_iff_ne]; omega
  have HFIT : Hid (fits s x = true) := by show _ = _; unfold fits; rw [decide_eq_true (show x.length ≤ 65528 by omega), decide_eq_true ht]; rfl
  have HFD : Hid (∀ i, (fD d i).steps.length ≤ N) := fun i => by
   unfold fD
   cases h : d.fs[i]? with
   | none => exact Nat.zero_le _
   | some f => exact HG.out.few f (List.mem_of_getElem? h)
  have HTL := Lib.hid ht
  clear ht
  obtain ⟨TN, hTN⟩ : ∃ TN, s.turn + 1 = TN := ⟨_, rfl⟩
  rw [hTN] at hw hne HTL
  have HTN := Lib.hid hTN
  clear hTN
  go_upto_region 4 with fail
  rename_i K1 h1 K2 h2
  refine wp_key (K1 := K1) (fun a0 a' y => ∃ (I : Nat) (v24 v25 v26 v27 v28 v29 v30 : Value), w4 = y ∧ I < 3 ∧ nxt s a b = I ∧ a' = ((((((((a0.put (some 24) v24).put (some 25) v25).put (some 26) v26).put (some 27) v27).put (some 28) v28).put (some 29) v29).put (some 30) v30).put (some 9) (.int .i64 (I : Int)))) ?_ ?_
  rotate_left
  ·intro KEY
   clear h1
   by_cases hna : s.now = (a : Int)
   ·have e1 : (s.now == (a : Int)) = true := beq_iff_eq.2 hna
    have HNX : nxt s a b = b := if_pos hna
    clear hna
    go_wp2_with fail
    exact ⟨b, hb, rfl, rfl⟩
   ·have e1 : (s.now == (a : Int)) = false := beq_eq_false_iff_ne.2 hna
    have HNX : nxt s a b = a := if_neg hna
    clear hna
    go_wp2_with fail
    exact ⟨a, ha, rfl, rfl⟩
  ·rintro a' y ⟨I, v24, v25, v26, v27, v28, v29, v30, rfl, hI, hNX, rfl⟩
   have HI3 := Lib.hid hI
   have HNX := Lib.hid hNX
   clear hI hNX h2
   refine h1 _ _ ?_
   clear h1
   simp only [Act.put, zA, zB, zC]
   go_upto_region 7 with fail
   skip
   have HPN : Hid (Pnd d s a b x I (acts d I (wrapB s x)) d) := by
    have hf := HFIT.out
    refine ⟨?_, ?_, ?_⟩
    ·unfold putSD; rw [if_pos hf, HNX.out]
    ·unfold putSE; rw [if_pos hf, HNX.out]
    ·unfold putSS; rw [HNX.out]; simp only [hf, true_and]
   have hI3 : (I : Int) < 3 := by have := HI3.out; omega
   have hti : I < ts.length := by rw [HPQ.out.rd.n3]; exact HI3.out
   have ht : ts[I]? = some (ts[I]'hti) := List.getElem?_eq_getElem hti
   generalize ts[I]'hti = t at *
   have HF := Lib.hid (HPQ.out.rd.fd HI3.out)
   have HT := Lib.hid ht
   have HNB : Hid ((fD d I).need ≤ 1000000) := by
    obtain ⟨t', f', _, a', _, _, b'⟩ := HPQ.out.rd.at.file I HI3.out
    rw [HF.out] at a'
    cases a'; exact b'
   clear ht hti
   have HRG := Lib.hid (rd_range HPQ.out.rd.n3 HPQ.out.rd.m3 HPQ.out.r3 I HT.out HF.out)
   have HHO := Lib.hid (rholds_any t (fD d I) w4 (HPQ.out.rd.each I t _ HT.out HF.out).1.now HNB.out)
   have HUN := Lib.hid (fun y (hb : Below w4.heap.size w4 y) => runits_any t (fD d I) y ((HPQ.out.rd.below hb).each I t _ HT.out HF.out).1.now)
   clear c0 c1 c2 c3 c4 hfz
   go_upto_region 7 with fail
   refine wp_mid (fun a0 a' y => ∃ (v31 v32 v33 v34 v35 v36 v37 v38 v39 v40 v41 v42 v43 v44 : Value), Below w4.heap.size w4 y ∧ a' = (((((((((((((((a0.put (some 31) v31).put (some 32) v32).put (some 33) v33).put (some 34) v34).put (some 35) v35).put (some 36) v36).put (some 37) v37).put (some 38) v38).put (some 39) v39).put (some 40) v40).put (some 41) v41).put (some 42) v42).put (some 43) v43).put (some 44) v44).put (some 45) (.bool (full d I)))) ?_ ?_
   ·go_wp2_with (refine wpList_load_mid rfl 62 _ rfl w.heap.size (I * 2) rfl (fA t (fD d I)).toList _ HRG.out Tryz.underlying62 rfl (infoFi (fA t (fD d I)) rfl) ?_)
    try rw [Array.toArray_toList]
    refine HHO.out.mono ?_
    rintro e w5 ⟨p5, c5, rfl, _, hb5⟩
    have HB5 := Lib.hid hb5
    have HRG5 := Lib.hid (range_below HRG.out hb5)
    clear hb5 HHO HRG HPQ
    by_cases hl : 0 < (fD d I).now.length
    ·have q1 : decide ((0 : Int) < ((fD d I).now.length : Int)) = true := decide_eq_true (by omega)
     have q2 : decide (0 < (fD d I).now.length) = true := decide_eq_true hl
     have HFULL : full d I = true := by unfold full; rw [decide_eq_true hl]; rfl
     have HFL := Lib.hid HFULL
     clear HFULL
     go_wp2_with fail
     exact ⟨HB5.out, HFL.out⟩
    ·have q1 : decide ((0 : Int) < ((fD d I).now.length : Int)) = false := decide_eq_false (by omega)
     have q2 : decide (0 < (fD d I).now.length) = false := decide_eq_false hl
     go_wp2_with ((with_reducible refine wpAt 42 ?_); refine loadMidG rfl 62 _ rfl w.heap.size (I * 2) rfl (fA t (fD d I)) _ HRG5.out Tryz.underlying62 rfl (infoFi (fA t (fD d I)) rfl) ?_)
     refine (HUN.out w5 HB5.out).mono ?_
     rintro e w6 ⟨rfl, hb6⟩
     have HB6 := Lib.hid (HB5.out.trans (hb6.mono HB5.out.size))
     clear hb6 HUN HRG5 HB5 q1 q2
     have q3 : decide ((0 : Int) < (unitsAll (fD d I).steps : Int)) = full d I := by
      unfold full
      rw [decide_eq_false hl, Bool.false_or, decide_eq_decide]; omega
     have q4 : decide (0 < unitsAll (fD d I).steps) = full d I := by
      unfold full
      rw [decide_eq_false hl, Bool.false_or]
     obtain ⟨FL, hFL⟩ : ∃ FL, FL = full d I := ⟨_, rfl⟩
     rw [← hFL] at q3 q4
     have HFE := Lib.hid hFL
     clear hFL
     go_wp2_with fail
     exact ⟨HB6.out, HFE.out⟩
   rintro a' w5 ⟨v31, v32, v33, v34, v35, v36, v37, v38, v39, v40, v41, v42, v43, v44, hb5, rfl⟩
   have hq5 := HPQ.out.next hb5
   clear hb5 HHO HRG HPQ HUN HNB HT HF
   have HPQ := Lib.hid hq5
   clear hq5
   simp only [Act.put, zA, zB, zC]
   obtain ⟨FLB, hFLB⟩ : ∃ B, full d I = B := ⟨_, rfl⟩
   rw [hFLB]
   have HFULL := Lib.hid hFLB
   clear hFLB
   cases FLB with
   | true =>
    skip
    have HAC : Hid (acts d I (wrapB s x) = [.cut, .sync, .put (wrapB s x), .sync]) := by show _ = _; unfold acts; rw [if_pos HFULL.out]
    rw [HAC.out] at HPN
    have HIL : Hid (I < d.fs.length) := by show _ < _; rw [HPQ.out.rd.m3]; exact HI3.out
    have HC : Hid (Calls Tryz.prog 103 #[.agg (rdA ts d), .int .i64 (I : Int), .int .i64 0] w5 (ROut (stpD d I .cut) (stpE d I .cut) w5)) := rcut_in ts d I HI3.out 0 (Nat.zero_le _) w5 HPQ.out.rd HG.out.used (by have := HFD.out I; omega)
    go_upto_region 8 with fail
    skip
    go_wp2_with (refine wpList_load_row rfl 65 _ rfl w.heap.size rfl 65 (rdA ts d) (0, 0) _ HPQ.out.r3 Tryz.underlying65 rfl (infoRD _ (rdA_size HPQ.out.rd.n3 HPQ.out.rd.m3)) ?_)
    refine HC.out.mono ?_
    rintro e y1 ⟨T1, rfl, hr, hb⟩
    have hq := HPQ.out.next hb
    have HQR := Lib.hid hq.r3
    have HSZ3 : Hid ((rdA ts d).size = (rdA T1 (stpD d I .cut)).size) := by show _ = _; rw [rdA_size hq.rd.n3 hq.rd.m3, rdA_size hr.n3 hr.m3]
    have HP1 := Lib.hid (hq.disk hr)
    have HOK1 : Hid (stpE d I .cut = 0 → Pnd d s a b x I [.sync, .put (wrapB s x), .sync] (stpD d I .cut)) := fun h => HPN.out.ok h
    have HNO1 : Hid (¬ stpE d I .cut = 0 → putSD d s a b x = stpD d I .cut ∧ putSS d s a b x = s ∧ putSE d s a b x = stpE d I .cut) := fun h => HPN.out.no h
    clear hq hr hb HPQ HC HPN
    have HG1 : Hid (Gd (stpD d I .cut) (N + 1)) := HG.out.did HIL.out (.cut 0)
    generalize stpE d I .cut = E1 at *
    generalize stpD d I .cut = D1 at *
    go_upto_region 9 with (refine wpList_store_row rfl 65 _ _ rfl w.heap.size (rdA T1 D1) rfl rfl 65 (rdA ts d) HQR.out (infoRD _ (rdA_size HP1.out.rd.n3 HP1.out.rd.m3)) HSZ3.out (rdA_one HP1.out.rd.n3 HP1.out.rd.m3) ?_)
    try simp only [Act.put, zA, zB, zC]
    clear HQR HSZ3
    generalize y1.setRow w.heap.size (rdA T1 D1) = z1 at *
    by_cases he1 : E1 = 0
    rotate_left
    ·have q1 : (E1 != 0) = true := bne_iff_ne.2 he1
     have HFIN := Lib.hid (HNO1.out he1)
     have HPQ := HP1
     clear he1 HOK1
     go_upto_region 10 with fail
     skip
     have HL3 : Hid (∀ w', Turns (fun k => k = w.heap.size + 2 ∨ k = w.heap.size + 3) z1 w' → w'.rangeAt w.heap.size 0 (rdA T1 D1).toList) := fun w' hb => row_rangeR (hb.keep HPQ.out.r3 (by rintro (h | h) <;> omega))
     have HL4 : Hid (∀ w', Turns (fun k => k = w.heap.size + 2 ∨ k = w.heap.size + 3) z1 w' → w'.rangeAt (w.heap.size + 1) 0 (rsA a b s p c).toList) := fun w' hb => row_rangeR (hb.keep HPQ.out.r4 (by rintro (h | h) <;> omega))
     refine wp_region_tree (Turns (fun k => k = w.heap.size + 2 ∨ k = w.heap.size + 3) z1) (.take 0 (.take 1 (.take 2 (.one 3 (.one 4 (.one 5 .nil)))))) (by kernel_rfl) (by kernel_rfl) (Turns.of_below (below_drew1 _ _)) ?_
     have hy0 : Below z1.heap.size z1 z1.drew := below_drew1 _ _
     refine tree_load rfl (by rfl) 65 _ rfl w.heap.size 0 rfl (rdA T1 D1) _ (fun w' hb => HL3.out w' hb) Tryz.underlying65 rfl (infoRD _ (rdA_size HPQ.out.rd.n3 HPQ.out.rd.m3)) ?_
     try simp only [Act.put, zA, zB, zC]
     refine tree_load rfl (by rfl) 74 _ rfl (w.heap.size + 1) 0 rfl (rsA a b s p c) _ (fun w' hb => HL4.out w' hb) Tryz.underlying74 rfl (infoRS _ rfl) ?_
     try simp only [Act.put, zA, zB, zC]
     repeat (apply tree_take; (· rfl); (· rfl); (· (intro w' hb'; go_simp; try with_reducible rfl)); try simp only [Act.put, zA, zB, zC])
     have hq1 := HPQ.out.next hy0
     have ht0 : Turns (fun k => k = w.heap.size + 2 ∨ k = w.heap.size + 3) z1 z1.drew := Turns.of_below hy0
     clear HL3 HL4 HPQ hy0
     generalize z1.drew = wD at *
     refine tree_one rfl (by rfl) (fun K hK => oper_of_list rfl ?_)
     refine wpList_store_row rfl 65 _ _ rfl (w.heap.size + 2) (rdA T1 D1) rfl rfl 65 zD hq1.r6 (infoRD _ (rdA_size hq1.rd.n3 hq1.rd.m3)) (by rw [rdA_size hq1.rd.n3 hq1.rd.m3]; rfl) (rdA_one hq1.rd.n3 hq1.rd.m3) ?_
     have ht1 := ht0.trans (turns_setRow wD (w.heap.size + 2) (rdA T1 D1)) (fun k _ hk => .inl hk)
     refine only_end (Shut.out hK _ _ ht1 ?_)
     clear hK K
     try simp only [Act.put]
     have hr7 : (wD.setRow (w.heap.size + 2) (rdA T1 D1)).heap[w.heap.size + 3]? = some (.cells zS 74 (0, 0)) := by rw [setRow_other _ _ _ _ (by omega)]; exact hq1.r7
     refine tree_one rfl (by rfl) (fun K hK => oper_of_list rfl ?_)
     refine wpList_store_row rfl 74 _ _ rfl (w.heap.size + 3) (rsA a b s p c) rfl rfl 74 zS hr7 (infoRS _ rfl) rfl (rsA_one _ _ _ _ _) ?_
     have ht2 := ht1.trans (turns_setRow (wD.setRow (w.heap.size + 2) (rdA T1 D1)) (w.heap.size + 3) (rsA a b s p c)) (fun k _ hk => .inr hk)
     refine only_end (Shut.out hK _ _ ht2 ?_)
     clear hK K
     try simp only [Act.put]
     refine tree_one rfl (by rfl) (fun K hK => ?_)
     go_simp
     refine Shut.out hK _ _ ht2 ?_
     clear hK K
     try simp only [Act.put, zA, zB, zC]
     refine tree_nil ?_
     go_wp2_with fail
     have hs1 : ((wD.setRow (w.heap.size + 2) (rdA T1 D1)).setRow (w.heap.size + 3) (rsA a b s p c)).heap[w.heap.size + 2]? = some (.cells (rdA T1 D1) 65 (0, 0)) := by rw [setRow_other _ _ _ _ (by omega)]; exact setRow_heap _ _ _ _ _ _ hq1.r6
     have hs2 := setRow_heap _ _ _ (rsA a b s p c) _ _ hr7
     have hk : KR 0 wD ((wD.setRow (w.heap.size + 2) (rdA T1 D1)).setRow (w.heap.size + 3) (rsA a b s p c)) := (kr_turn (turns_setRow _ _ _) hq1.r6 (by decide) (by decide)).trans (kr_turn (turns_setRow _ _ _) hr7 (by decide) (by decide))
     refine bodyPost_ret (results_cells2_tmp rfl _ _ _ _ _ _ _ _ _ _ _ _ rfl rfl hs1 hs2 Tryz.underlying65 rfl (infoRD _ (rdA_size hq1.rd.n3 hq1.rd.m3)) Tryz.underlying74 rfl (infoRS _ rfl)) rfl ?_
     obtain ⟨f1, f2, f3⟩ := HFIN.out
     unfold RPuP
     rw [f1, f2, f3]
     exact ⟨T1, p, c, rfl, hq1.rd.step hk, hq1.rb.step hk, below_setRow (below_setRow hq1.low (by omega) _) (by omega) _⟩
    have q1 : (E1 != 0) = false := by rw [bne_eq_false_iff_eq]; exact he1
    have HPN := Lib.hid (HOK1.out he1)
    have HPQ := HP1
    have HIL : Hid (I < D1.fs.length) := by show _ < _; rw [HPQ.out.rd.m3]; exact HI3.out
    have HOKF : Hid (fD D1 I).Ok := RDB.okF HPQ.out.rd HI3.out
    have HC : Hid (Calls Tryz.prog 104 #[.agg (rdA T1 D1), .int .i64 (I : Int)] z1 (ROut (stpD D1 I .sync) (stpE D1 I .sync) z1)) := rsync_in T1 D1 I HI3.out (fD D1 I) (HPQ.out.rd.fd HI3.out) z1 HPQ.out.rd
    clear he1 HOK1 HNO1 HP1
    go_upto_region 11 with fail
    clear q1
    skip
    go_wp2_with (refine wpList_load_row rfl 65 _ rfl w.heap.size rfl 65 (rdA T1 D1) (0, 0) _ HPQ.out.r3 Tryz.underlying65 rfl (infoRD _ (rdA_size HPQ.out.rd.n3 HPQ.out.rd.m3)) ?_)
    refine HC.out.mono ?_
    rintro e y2 ⟨T2, rfl, hr, hb⟩
    have hq := HPQ.out.next hb
    have HQR := Lib.hid hq.r3
    have HSZ3 : Hid ((rdA T1 D1).size = (rdA T2 (stpD D1 I .sync)).size) := by show _ = _; rw [rdA_size hq.rd.n3 hq.rd.m3, rdA_size hr.n3 hr.m3]
    have HP2 := Lib.hid (hq.disk hr)
    have HOK3 : Hid (stpE D1 I .sync = 0 → Pnd d s a b x I [.put (wrapB s x), .sync] (stpD D1 I .sync)) := fun h => HPN.out.ok h
    have HNO3 : Hid (¬ stpE D1 I .sync = 0 → putSD d s a b x = stpD D1 I .sync ∧ putSS d s a b x = s ∧ putSE d s a b x = stpE D1 I .sync) := fun h => HPN.out.no h
    clear hq hr hb HPQ HC HPN
    have HG2 : Hid (Gd (stpD D1 I .sync) (N + 1)) := HG1.out.synd HIL.out HOKF.out
    generalize stpE D1 I .sync = E2 at *
    generalize stpD D1 I .sync = D2 at *
    go_upto_region 12 with (refine wpList_store_row rfl 65 _ _ rfl w.heap.size (rdA T2 D2) rfl rfl 65 (rdA T1 D1) HQR.out (infoRD _ (rdA_size HP2.out.rd.n3 HP2.out.rd.m3)) HSZ3.out (rdA_one HP2.out.rd.n3 HP2.out.rd.m3) ?_)
    try simp only [Act.put, zA, zB, zC]
    clear HQR HSZ3
    generalize y2.setRow w.heap.size (rdA T2 D2) = z2 at *
    by_cases he1 : E2 = 0
    rotate_left
    ·have q1 : (E2 != 0) = true := bne_iff_ne.2 he1
     have HFIN := Lib.hid (HNO3.out he1)
     have HPQ := HP2
     clear he1 HOK3
     go_upto_region 13 with fail
     skip
     have HL3 : Hid (∀ w', Turns (fun k => k = w.heap.size + 2 ∨ k = w.heap.size + 3) z2 w' → w'.rangeAt w.heap.size 0 (rdA T2 D2).toList) := fun w' hb => row_rangeR (hb.keep HPQ.out.r3 (by rintro (h | h) <;> omega))
     have HL4 : Hid (∀ w', Turns (fun k => k = w.heap.size + 2 ∨ k = w.heap.size + 3) z2 w' → w'.rangeAt (w.heap.size + 1) 0 (rsA a b s p c).toList) := fun w' hb => row_rangeR (hb.keep HPQ.out.r4 (by rintro (h | h) <;> omega))
     refine wp_region_tree (Turns (fun k => k = w.heap.size + 2 ∨ k = w.heap.size + 3) z2) (.take 0 (.take 1 (.take 2 (.one 3 (.one 4 (.one 5 .nil)))))) (by kernel_rfl) (by kernel_rfl) (Turns.of_below (below_drew1 _ _)) ?_
     have hy0 : Below z2.heap.size z2 z2.drew := below_drew1 _ _
     refine tree_load rfl (by rfl) 65 _ rfl w.heap.size 0 rfl (rdA T2 D2) _ (fun w' hb => HL3.out w' hb) Tryz.underlying65 rfl (infoRD _ (rdA_size HPQ.out.rd.n3 HPQ.out.rd.m3)) ?_
     try simp only [Act.put, zA, zB, zC]
     refine tree_load rfl (by rfl) 74 _ rfl (w.heap.size + 1) 0 rfl (rsA a b s p c) _ (fun w' hb => HL4.out w' hb) Tryz.underlying74 rfl (infoRS _ rfl) ?_
     try simp only [Act.put, zA, zB, zC]
     repeat (apply tree_take; (· rfl); (· rfl); (· (intro w' hb'; go_simp; try with_reducible rfl)); try simp only [Act.put, zA, zB, zC])
     have hq1 := HPQ.out.next hy0
     have ht0 : Turns (fun k => k = w.heap.size + 2 ∨ k = w.heap.size + 3) z2 z2.drew := Turns.of_below hy0
     clear HL3 HL4 HPQ hy0
     generalize z2.drew = wD at *
     refine tree_one rfl (by rfl) (fun K hK => oper_of_list rfl ?_)
     refine wpList_store_row rfl 65 _ _ rfl (w.heap.size + 2) (rdA T2 D2) rfl rfl 65 zD hq1.r6 (infoRD _ (rdA_size hq1.rd.n3 hq1.rd.m3)) (by rw [rdA_size hq1.rd.n3 hq1.rd.m3]; rfl) (rdA_one hq1.rd.n3 hq1.rd.m3) ?_
     have ht1 := ht0.trans (turns_setRow wD (w.heap.size + 2) (rdA T2 D2)) (fun k _ hk => .inl hk)
     refine only_end (Shut.out hK _ _ ht1 ?_)
     clear hK K
     try simp only [Act.put]
     have hr7 : (wD.setRow (w.heap.size + 2) (rdA T2 D2)).heap[w.heap.size + 3]? = some (.cells zS 74 (0, 0)) := by rw [setRow_other _ _ _ _ (by omega)]; exact hq1.r7
     refine tree_one rfl (by rfl) (fun K hK => oper_of_list rfl ?_)
     refine wpList_store_row rfl 74 _ _ rfl (w.heap.size + 3) (rsA a b s p c) rfl rfl 74 zS hr7 (infoRS _ rfl) rfl (rsA_one _ _ _ _ _) ?_
     have ht2 := ht1.trans (turns_setRow (wD.setRow (w.heap.size + 2) (rdA T2 D2)) (w.heap.size + 3) (rsA a b s p c)) (fun k _ hk => .inr hk)
     refine only_end (Shut.out hK _ _ ht2 ?_)
     clear hK K
     try simp only [Act.put]
     refine tree_one rfl (by rfl) (fun K hK => ?_)
     go_simp
     refine Shut.out hK _ _ ht2 ?_
     clear hK K
     try simp only [Act.put, zA, zB, zC]
     refine tree_nil ?_
     go_wp2_with fail
     have hs1 : ((wD.setRow (w.heap.size + 2) (rdA T2 D2)).setRow (w.heap.size + 3) (rsA a b s p c)).heap[w.heap.size + 2]? = some (.cells (rdA T2 D2) 65 (0, 0)) := by rw [setRow_other _ _ _ _ (by omega)]; exact setRow_heap _ _ _ _ _ _ hq1.r6
     have hs2 := setRow_heap _ _ _ (rsA a b s p c) _ _ hr7
     have hk : KR 0 wD ((wD.setRow (w.heap.size + 2) (rdA T2 D2)).setRow (w.heap.size + 3) (rsA a b s p c)) := (kr_turn (turns_setRow _ _ _) hq1.r6 (by decide) (by decide)).trans (kr_turn (turns_setRow _ _ _) hr7 (by decide) (by decide))
     refine bodyPost_ret (results_cells2_tmp rfl _ _ _ _ _ _ _ _ _ _ _ _ rfl rfl hs1 hs2 Tryz.underlying65 rfl (infoRD _ (rdA_size hq1.rd.n3 hq1.rd.m3)) Tryz.underlying74 rfl (infoRS _ rfl)) rfl ?_
     obtain ⟨f1, f2, f3⟩ := HFIN.out
     unfold RPuP
     rw [f1, f2, f3]
     exact ⟨T2, p, c, rfl, hq1.rd.step hk, hq1.rb.step hk, below_setRow (below_setRow hq1.low (by omega) _) (by omega) _⟩
    have q1 : (E2 != 0) = false := by rw [bne_eq_false_iff_eq]; exact he1
    have HPN := Lib.hid (HOK3.out he1)
    have HPQ := HP2
    clear he1 HOK3 HNO3 HP2 HIL HOKF HG1
    go_upto_region 14 with fail
    clear q1
    skip
    have HIL : Hid (I < D2.fs.length) := by show _ < _; rw [HPQ.out.rd.m3]; exact HI3.out
    have HL3 : Hid (∀ w', Below z2.heap.size z2 w' → w'.rangeAt w.heap.size 0 (rdA T2 D2).toList) := fun w' hb => row_rangeR (Below.keepOld hb HPQ.out.r3)
    have HT3 : Hid (∀ w', Below z2.heap.size z2 w' → w'.cell? ⟨w.heap.size + 1, 3, none⟩ = some (.int .u64 (s.turn : Int))) := fun w' hb => (rs_cells (Below.keepOld hb HPQ.out.r4)).2.2.2.1
    have HXB := Lib.hid (HX.out.below HPQ.out.low)
    refine wp_region_eager_u (Below z2.heap.size z2) [0, 1, 2, 3, 4, 6] [(0, true), (1, true), (2, true), (3, true), (4, true), (6, true), (5, false), (7, false), (8, false), (9, false)] (.take 10 (.take 11 (.take 12 (.one 13 (.one 14 .nil))))) (by kernel_rfl) (by kernel_rfl) ?_ (eagerUOpen rfl ?_)
    ·exact below_drew1 _ _
    have hy0 : Below z2.heap.size z2 z2.drew := below_drew1 _ _
    repeat (first
     | ((with_reducible refine eagerULoadAt 3 ?_); refine wpEagerU_load (by rfl) 65 _ rfl w.heap.size 0 rfl (rdA T2 D2) _ (fun w' hb => HL3.out w' hb) Tryz.underlying65 rfl (infoRD _ (rdA_size HPQ.out.rd.n3 HPQ.out.rd.m3)) ?_; (try simp only [Act.put, zA, zB, zC]); (try refine eagerUOpen rfl ?_))
     | (apply wpEagerU_take; (· rfl); (· (intro w' hb'; have hk' := (HT3.out) w' hb'; go_split_ands; go_simp; try with_reducible rfl)); (try simp only [Act.put, zA, zB, zC]); (try refine eagerUOpen rfl ?_))
     | ((first | (apply wpEagerU_take; (· rfl); (· (intro w' hb'; go_simp; try with_reducible rfl))) | refine wpEagerU_skip (by rfl) ?_); (try simp only [Act.put, zA, zB, zC]); (try refine eagerUOpen rfl ?_)))
    (refine wpEagerU_op (by rfl) (fun K hK => ?_); go_simp; (refine (number8 z2.drew TN HTL.out).mono ?_; rintro e y8 ⟨p8, c8, rfl, ho, hb⟩; have hy1 : Below z2.heap.size z2 y8 := hy0.trans hb; have HO8 := Lib.hid ho; clear ho hb); refine Shut.out hK _ _ (by assumption) ?_; clear hK K; (try simp only [Act.put, zA, zB, zC]); (try refine eagerUOpen rfl ?_))
    have HB8 : Hid (z2.heap.size ≤ y8.heap.size) := hy1.size
    have HXS := Lib.hid (HXB.out.below hy1)
    refine wpEagerU_op (by rfl) (fun K hK => oper_of_list rfl ?_)
    refine wpList_append_nx rfl _ _ 22 rfl (base := z2.drew.heap.size) Tryz.underlying22 Frm.info8b rfl (by omega) rfl HO8.out rfl HXS.out (bytesV_one _) ⟨by omega, by omega⟩ HB8.out ?_
    intro p9 c9 y9 ho9 hgr hnx _
    have hb9 := own_below HO8.out hgr HB8.out
    have hy2 : Below z2.heap.size z2 y9 := hy1.trans (show Below z2.heap.size y8 y9 from hb9)
    have HFB : Hid (Bs y9 p9 (8 + x.length) c9 (be TN 8 ++ x)) := by
     rw [← bytesV_append] at ho9
     exact Cut.own_bs ho9
    have HWB : Hid (frame (be TN 8 ++ x) = wrapB s x) := by show _ = _; unfold wrapB; rw [HTN.out]
    have HWL : Hid ((wrapB s x).length ≤ 60000) := by show _ ≤ _; rw [← HWB.out, Frm.frame_length, List.length_append, be_length]; omega
    have HFR := Lib.hid (Frm.rbytes_any p9 (8 + x.length) c9 (be TN 8 ++ x) y9 HFB.out (by omega))
    rw [HWB.out] at HFR
    refine only_end (Shut.out hK _ _ hy2 ?_)
    clear hK K ho9 hgr hnx hb9 HO8 HXS HB8 HFB HWB
    (try simp only [Act.put, zA, zB, zC]); (try refine eagerUOpen rfl ?_)
    (refine wpEagerU_op (by rfl) (fun K hK => ?_); go_simp; (refine HFR.out.mono ?_; rintro e yF ⟨pF, cF, rfl, ho, hb⟩; have HOF := Lib.hid (Cut.own_bs ho); have hy3 : Below z2.heap.size z2 yF := hy2.trans (hb.mono hy2.size); clear ho hb); refine Shut.out hK _ _ (by assumption) ?_; clear hK K; (try simp only [Act.put, zA, zB, zC]); (try refine eagerUOpen rfl ?_))
    have HPC : Hid (Calls Tryz.prog 25 #[.agg (rdA T2 D2), .int .i64 (I : Int), .slice pF (wrapB s x).length cF] yF (ROut (stpD D2 I (.put (wrapB s x))) (stpE D2 I (.put (wrapB s x))) yF)) := rput_in T2 D2 I HI3.out pF (wrapB s x) cF yF (HPQ.out.rd.below hy3) HG2.out.used HOF.out HWL.out (by have := fewfd (i := I) HG2.out.few; omega)
    (refine wpEagerU_op (by rfl) (fun K hK => ?_); go_simp; (refine HPC.out.mono ?_; rintro e yP ⟨T5, rfl, hr, hb⟩; have HR5 := Lib.hid hr; have hy4 : Below z2.heap.size z2 yP := hy3.trans (hb.mono hy3.size); clear hr hb); refine Shut.out hK _ _ (by assumption) ?_; clear hK K; (try simp only [Act.put, zA, zB, zC]); (try refine eagerUOpen rfl ?_))
    refine eagerUEnd ?_
    have hq := HPQ.out.next hy4
    have HQR := Lib.hid hq.r3
    have HSZ3 : Hid ((rdA T2 D2).size = (rdA T5 (stpD D2 I (.put (wrapB s x)))).size) := by show _ = _; rw [rdA_size hq.rd.n3 hq.rd.m3, rdA_size HR5.out.n3 HR5.out.m3]
    have HP5 := Lib.hid (hq.disk HR5.out)
    have HOK5 : Hid (stpE D2 I (.put (wrapB s x)) = 0 → Pnd d s a b x I [.sync] (stpD D2 I (.put (wrapB s x)))) := fun h => HPN.out.ok h
    have HNO5 : Hid (¬ stpE D2 I (.put (wrapB s x)) = 0 → putSD d s a b x = stpD D2 I (.put (wrapB s x)) ∧ putSS d s a b x = s ∧ putSE d s a b x = stpE D2 I (.put (wrapB s x))) := fun h => HPN.out.no h
    obtain ⟨M5, HG5⟩ : ∃ M, Hid (Gd (stpD D2 I (.put (wrapB s x))) M) := ⟨_, HG2.out.did HIL.out _⟩
    clear hq HPN HPQ HL3 HT3 HXB HPC HFR HOF HWL hy0 hy1 hy2 hy3 hy4 HIL HG2 HR5
    generalize stpE D2 I (.put (wrapB s x)) = E5 at *
    generalize stpD D2 I (.put (wrapB s x)) = D5 at *
    repeat (apply tree_take; (· rfl); (· rfl); (· (intro w' hb'; go_simp; try with_reducible rfl)); try simp only [Act.put, zA, zB, zC])
    refine tree_one rfl (by rfl) (fun K hK => oper_of_list rfl ?_)
    refine wpList_store_row rfl 65 _ _ rfl w.heap.size (rdA T5 D5) rfl rfl 65 (rdA T2 D2) HQR.out (infoRD _ (rdA_size HP5.out.rd.n3 HP5.out.rd.m3)) HSZ3.out (rdA_one HP5.out.rd.n3 HP5.out.rd.m3) ?_
    refine only_end (Shut.out hK _ _ trivial ?_)
    clear hK K HQR HSZ3
    try simp only [Act.put]
    generalize yP.setRow w.heap.size (rdA T5 D5) = z5 at *
    refine tree_one rfl (by rfl) (fun K hK => ?_)
    go_simp
    refine Shut.out hK _ _ trivial ?_
    clear hK K
    try simp only [Act.put, zA, zB, zC]
    refine tree_nil ?_
    by_cases he1 : E5 = 0
    rotate_left
    ·have q1 : (E5 != 0) = true := bne_iff_ne.2 he1
     have HFIN := Lib.hid (HNO5.out he1)
     have HPQ := HP5
     clear he1 HOK5
     go_upto_region 16 with fail
     skip
     have HL3 : Hid (∀ w', Turns (fun k => k = w.heap.size + 2 ∨ k = w.heap.size + 3) z5 w' → w'.rangeAt w.heap.size 0 (rdA T5 D5).toList) := fun w' hb => row_rangeR (hb.keep HPQ.out.r3 (by rintro (h | h) <;> omega))
     have HL4 : Hid (∀ w', Turns (fun k => k = w.heap.size + 2 ∨ k = w.heap.size + 3) z5 w' → w'.rangeAt (w.heap.size + 1) 0 (rsA a b s p c).toList) := fun w' hb => row_rangeR (hb.keep HPQ.out.r4 (by rintro (h | h) <;> omega))
     refine wp_region_tree (Turns (fun k => k = w.heap.size + 2 ∨ k = w.heap.size + 3) z5) (.take 0 (.take 1 (.take 2 (.one 3 (.one 4 (.one 5 .nil)))))) (by kernel_rfl) (by kernel_rfl) (Turns.of_below (below_drew1 _ _)) ?_
     have hy0 : Below z5.heap.size z5 z5.drew := below_drew1 _ _
     refine tree_load rfl (by rfl) 65 _ rfl w.heap.size 0 rfl (rdA T5 D5) _ (fun w' hb => HL3.out w' hb) Tryz.underlying65 rfl (infoRD _ (rdA_size HPQ.out.rd.n3 HPQ.out.rd.m3)) ?_
     try simp only [Act.put, zA, zB, zC]
     refine tree_load rfl (by rfl) 74 _ rfl (w.heap.size + 1) 0 rfl (rsA a b s p c) _ (fun w' hb => HL4.out w' hb) Tryz.underlying74 rfl (infoRS _ rfl) ?_
     try simp only [Act.put, zA, zB, zC]
     repeat (apply tree_take; (· rfl); (· rfl); (· (intro w' hb'; go_simp; try with_reducible rfl)); try simp only [Act.put, zA, zB, zC])
     have hq1 := HPQ.out.next hy0
     have ht0 : Turns (fun k => k = w.heap.size + 2 ∨ k = w.heap.size + 3) z5 z5.drew := Turns.of_below hy0
     clear HL3 HL4 HPQ hy0
     generalize z5.drew = wD at *
     refine tree_one rfl (by rfl) (fun K hK => oper_of_list rfl ?_)
     refine wpList_store_row rfl 65 _ _ rfl (w.heap.size + 2) (rdA T5 D5) rfl rfl 65 zD hq1.r6 (infoRD _ (rdA_size hq1.rd.n3 hq1.rd.m3)) (by rw [rdA_size hq1.rd.n3 hq1.rd.m3]; rfl) (rdA_one hq1.rd.n3 hq1.rd.m3) ?_
     have ht1 := ht0.trans (turns_setRow wD (w.heap.size + 2) (rdA T5 D5)) (fun k _ hk => .inl hk)
     refine only_end (Shut.out hK _ _ ht1 ?_)
     clear hK K
     try simp only [Act.put]
     have hr7 : (wD.setRow (w.heap.size + 2) (rdA T5 D5)).heap[w.heap.size + 3]? = some (.cells zS 74 (0, 0)) := by rw [setRow_other _ _ _ _ (by omega)]; exact hq1.r7
     refine tree_one rfl (by rfl) (fun K hK => oper_of_list rfl ?_)
     refine wpList_store_row rfl 74 _ _ rfl (w.heap.size + 3) (rsA a b s p c) rfl rfl 74 zS hr7 (infoRS _ rfl) rfl (rsA_one _ _ _ _ _) ?_
     have ht2 := ht1.trans (turns_setRow (wD.setRow (w.heap.size + 2) (rdA T5 D5)) (w.heap.size + 3) (rsA a b s p c)) (fun k _ hk => .inr hk)
     refine only_end (Shut.out hK _ _ ht2 ?_)
     clear hK K
     try simp only [Act.put]
     refine tree_one rfl (by rfl) (fun K hK => ?_)
     go_simp
     refine Shut.out hK _ _ ht2 ?_
     clear hK K
     try simp only [Act.put, zA, zB, zC]
     refine tree_nil ?_
     go_wp2_with fail
     have hs1 : ((wD.setRow (w.heap.size + 2) (rdA T5 D5)).setRow (w.heap.size + 3) (rsA a b s p c)).heap[w.heap.size + 2]? = some (.cells (rdA T5 D5) 65 (0, 0)) := by rw [setRow_other _ _ _ _ (by omega)]; exact setRow_heap _ _ _ _ _ _ hq1.r6
     have hs2 := setRow_heap _ _ _ (rsA a b s p c) _ _ hr7
     have hk : KR 0 wD ((wD.setRow (w.heap.size + 2) (rdA T5 D5)).setRow (w.heap.size + 3) (rsA a b s p c)) := (kr_turn (turns_setRow _ _ _) hq1.r6 (by decide) (by decide)).trans (kr_turn (turns_setRow _ _ _) hr7 (by decide) (by decide))
     refine bodyPost_ret (results_cells2_tmp rfl _ _ _ _ _ _ _ _ _ _ _ _ rfl rfl hs1 hs2 Tryz.underlying65 rfl (infoRD _ (rdA_size hq1.rd.n3 hq1.rd.m3)) Tryz.underlying74 rfl (infoRS _ rfl)) rfl ?_
     obtain ⟨f1, f2, f3⟩ := HFIN.out
     unfold RPuP
     rw [f1, f2, f3]
     exact ⟨T5, p, c, rfl, hq1.rd.step hk, hq1.rb.step hk, below_setRow (below_setRow hq1.low (by omega) _) (by omega) _⟩
    have q1 : (E5 != 0) = false := by rw [bne_eq_false_iff_eq]; exact he1
    have HPN := Lib.hid (HOK5.out he1)
    have HPQ := HP5
    have HIL : Hid (I < D5.fs.length) := by show _ < _; rw [HPQ.out.rd.m3]; exact HI3.out
    have HOKF : Hid (fD D5 I).Ok := RDB.okF HPQ.out.rd HI3.out
    have HC : Hid (Calls Tryz.prog 104 #[.agg (rdA T5 D5), .int .i64 (I : Int)] z5 (ROut (stpD D5 I .sync) (stpE D5 I .sync) z5)) := rsync_in T5 D5 I HI3.out (fD D5 I) (HPQ.out.rd.fd HI3.out) z5 HPQ.out.rd
    clear he1 HOK5 HNO5 HP5
    go_upto_region 17 with fail
    clear q1
    skip
    go_wp2_with (refine wpList_load_row rfl 65 _ rfl w.heap.size rfl 65 (rdA T5 D5) (0, 0) _ HPQ.out.r3 Tryz.underlying65 rfl (infoRD _ (rdA_size HPQ.out.rd.n3 HPQ.out.rd.m3)) ?_)
    refine HC.out.mono ?_
    rintro e y6 ⟨T6, rfl, hr, hb⟩
    have hq := HPQ.out.next hb
    have HQR := Lib.hid hq.r3
    have HSZ3 : Hid ((rdA T5 D5).size = (rdA T6 (stpD D5 I .sync)).size) := by show _ = _; rw [rdA_size hq.rd.n3 hq.rd.m3, rdA_size hr.n3 hr.m3]
    have HP6 := Lib.hid (hq.disk hr)
    have HOK6 : Hid (stpE D5 I .sync = 0 → Pnd d s a b x I [] (stpD D5 I .sync)) := fun h => HPN.out.ok h
    have HNO6 : Hid (¬ stpE D5 I .sync = 0 → putSD d s a b x = stpD D5 I .sync ∧ putSS d s a b x = s ∧ putSE d s a b x = stpE D5 I .sync) := fun h => HPN.out.no h
    clear hq hr hb HPQ HC HPN
    have HG6 : Hid (Gd (stpD D5 I .sync) (M5)) := HG5.out.synd HIL.out HOKF.out
    generalize stpE D5 I .sync = E6 at *
    generalize stpD D5 I .sync = D6 at *
    go_upto_region 18 with (refine wpList_store_row rfl 65 _ _ rfl w.heap.size (rdA T6 D6) rfl rfl 65 (rdA T5 D5) HQR.out (infoRD _ (rdA_size HP6.out.rd.n3 HP6.out.rd.m3)) HSZ3.out (rdA_one HP6.out.rd.n3 HP6.out.rd.m3) ?_)
    try simp only [Act.put, zA, zB, zC]
    clear HQR HSZ3
    generalize y6.setRow w.heap.size (rdA T6 D6) = z6 at *
    by_cases he1 : E6 = 0
    rotate_left
    ·have q1 : (E6 != 0) = true := bne_iff_ne.2 he1
     have HFIN := Lib.hid (HNO6.out he1)
     have HPQ := HP6
     clear he1 HOK6
     go_upto_region 19 with fail
     skip
     have HL3 : Hid (∀ w', Turns (fun k => k = w.heap.size + 2 ∨ k = w.heap.size + 3) z6 w' → w'.rangeAt w.heap.size 0 (rdA T6 D6).toList) := fun w' hb => row_rangeR (hb.keep HPQ.out.r3 (by rintro (h | h) <;> omega))
     have HL4 : Hid (∀ w', Turns (fun k => k = w.heap.size + 2 ∨ k = w.heap.size + 3) z6 w' → w'.rangeAt (w.heap.size + 1) 0 (rsA a b s p c).toList) := fun w' hb => row_rangeR (hb.keep HPQ.out.r4 (by rintro (h | h) <;> omega))
     refine wp_region_tree (Turns (fun k => k = w.heap.size + 2 ∨ k = w.heap.size + 3) z6) (.take 0 (.take 1 (.take 2 (.one 3 (.one 4 (.one 5 .nil)))))) (by kernel_rfl) (by kernel_rfl) (Turns.of_below (below_drew1 _ _)) ?_
     have hy0 : Below z6.heap.size z6 z6.drew := below_drew1 _ _
     refine tree_load rfl (by rfl) 65 _ rfl w.heap.size 0 rfl (rdA T6 D6) _ (fun w' hb => HL3.out w' hb) Tryz.underlying65 rfl (infoRD _ (rdA_size HPQ.out.rd.n3 HPQ.out.rd.m3)) ?_
     try simp only [Act.put, zA, zB, zC]
     refine tree_load rfl (by rfl) 74 _ rfl (w.heap.size + 1) 0 rfl (rsA a b s p c) _ (fun w' hb => HL4.out w' hb) Tryz.underlying74 rfl (infoRS _ rfl) ?_
     try simp only [Act.put, zA, zB, zC]
     repeat (apply tree_take; (· rfl); (· rfl); (· (intro w' hb'; go_simp; try with_reducible rfl)); try simp only [Act.put, zA, zB, zC])
     have hq1 := HPQ.out.next hy0
     have ht0 : Turns (fun k => k = w.heap.size + 2 ∨ k = w.heap.size + 3) z6 z6.drew := Turns.of_below hy0
     clear HL3 HL4 HPQ hy0
     generalize z6.drew = wD at *
     refine tree_one rfl (by rfl) (fun K hK => oper_of_list rfl ?_)
     refine wpList_store_row rfl 65 _ _ rfl (w.heap.size + 2) (rdA T6 D6) rfl rfl 65 zD hq1.r6 (infoRD _ (rdA_size hq1.rd.n3 hq1.rd.m3)) (by rw [rdA_size hq1.rd.n3 hq1.rd.m3]; rfl) (rdA_one hq1.rd.n3 hq1.rd.m3) ?_
     have ht1 := ht0.trans (turns_setRow wD (w.heap.size + 2) (rdA T6 D6)) (fun k _ hk => .inl hk)
     refine only_end (Shut.out hK _ _ ht1 ?_)
     clear hK K
     try simp only [Act.put]
     have hr7 : (wD.setRow (w.heap.size + 2) (rdA T6 D6)).heap[w.heap.size + 3]? = some (.cells zS 74 (0, 0)) := by rw [setRow_other _ _ _ _ (by omega)]; exact hq1.r7
     refine tree_one rfl (by rfl) (fun K hK => oper_of_list rfl ?_)
     refine wpList_store_row rfl 74 _ _ rfl (w.heap.size + 3) (rsA a b s p c) rfl rfl 74 zS hr7 (infoRS _ rfl) rfl (rsA_one _ _ _ _ _) ?_
     have ht2 := ht1.trans (turns_setRow (wD.setRow (w.heap.size + 2) (rdA T6 D6)) (w.heap.size + 3) (rsA a b s p c)) (fun k _ hk => .inr hk)
     refine only_end (Shut.out hK _ _ ht2 ?_)
     clear hK K
     try simp only [Act.put]
     refine tree_one rfl (by rfl) (fun K hK => ?_)
     go_simp
     refine Shut.out hK _ _ ht2 ?_
     clear hK K
     try simp only [Act.put, zA, zB, zC]
     refine tree_nil ?_
     go_wp2_with fail
     have hs1 : ((wD.setRow (w.heap.size + 2) (rdA T6 D6)).setRow (w.heap.size + 3) (rsA a b s p c)).heap[w.heap.size + 2]? = some (.cells (rdA T6 D6) 65 (0, 0)) := by rw [setRow_other _ _ _ _ (by omega)]; exact setRow_heap _ _ _ _ _ _ hq1.r6
     have hs2 := setRow_heap _ _ _ (rsA a b s p c) _ _ hr7
     have hk : KR 0 wD ((wD.setRow (w.heap.size + 2) (rdA T6 D6)).setRow (w.heap.size + 3) (rsA a b s p c)) := (kr_turn (turns_setRow _ _ _) hq1.r6 (by decide) (by decide)).trans (kr_turn (turns_setRow _ _ _) hr7 (by decide) (by decide))
     refine bodyPost_ret (results_cells2_tmp rfl _ _ _ _ _ _ _ _ _ _ _ _ rfl rfl hs1 hs2 Tryz.underlying65 rfl (infoRD _ (rdA_size hq1.rd.n3 hq1.rd.m3)) Tryz.underlying74 rfl (infoRS _ rfl)) rfl ?_
     obtain ⟨f1, f2, f3⟩ := HFIN.out
     unfold RPuP
     rw [f1, f2, f3]
     exact ⟨T6, p, c, rfl, hq1.rd.step hk, hq1.rb.step hk, below_setRow (below_setRow hq1.low (by omega) _) (by omega) _⟩
    have q1 : (E6 != 0) = false := by rw [bne_eq_false_iff_eq]; exact he1
    have HFIN0 := Lib.hid (HOK6.out he1).end
    have HPQ := HP6
    clear he1 HOK6 HNO6 HP6 HIL HOKF HG5 HG6
    obtain ⟨_, _, c2, c3, c4, hfz⟩ := rs_cells HPQ.out.r4
    have hq1 := HPQ.out.cell (s' := ⟨(I : Int), s.turn, s.body⟩) (p' := p) (c' := c) 2 (.int .i64 (I : Int)) rfl HPQ.out.rb
    have hq2 := hq1.cell (s' := ⟨(I : Int), TN, s.body⟩) (p' := p) (c' := c) 3 (.int .u64 (TN : Int)) rfl hq1.rb
    go_upto_region 22 with fail
    clear c2 c3 c4 hfz hq1 HPQ q1
    generalize (z6.setCell ⟨w.heap.size + 1, 2, none⟩ (.int .i64 (I : Int))).setCell ⟨w.heap.size + 1, 3, none⟩ (.int .u64 (TN : Int)) = z8 at *
    have HQ2 := Lib.hid hq2
    have hal := Below.allocs z8 (.cells #[] 5)
    have HO0 : Hid ((z8.alloc (.cells #[] 5)).ownsRow z8.heap.size 5 1 (.slice (some ⟨z8.heap.size, 0, none⟩) 0 0) 0 []) := own_made0 z8 _ _ _ _ rfl (Nat.le_refl _)
    have HXS := Lib.hid ((HX.out.below hq2.low).below hal)
    have HZS := Lib.hid hal.size
    have HZL := Lib.hid hal
    clear hq2 hal
    go_wp2_with (at_builtin; refine wpList_append_nx rfl _ _ 22 rfl (base := z8.heap.size) Tryz.underlying22 Frm.info8b rfl (by omega) rfl HO0.out rfl HXS.out (bytesV_one _) ⟨by omega, by omega⟩ HZS.out ?_)
    intro p9 c9 y9 ho9 hgr hnx _
    have hb9 := HZL.out.trans (own_below HO0.out hgr HZS.out)
    have hq3 := HQ2.out.next hb9
    try simp only [Nat.zero_add, List.nil_append] at ho9
    try simp only [Nat.zero_add]
    obtain ⟨_, _, _, _, c4, hfz⟩ := rs_cells hq3.r4
    have HPQ := Lib.hid (hq3.cell (s' := ⟨(I : Int), TN, x⟩) (p' := p9) (c' := c9) 4 (.slice p9 x.length c9) rfl (RBs.own ho9))
    have HFIN : Hid (putSD d s a b x = D6 ∧ putSS d s a b x = ⟨(I : Int), TN, x⟩ ∧ putSE d s a b x = 0) := by
     have h := HFIN0.out
     rw [HTN.out] at h
     exact h
    clear ho9 hgr hnx hb9 hq3 HQ2 HO0 HXS HZS HZL HFIN0
    go_upto_region 23 with fail
    clear c4 hfz
    generalize y9.setCell ⟨w.heap.size + 1, 4, none⟩ (.slice p9 x.length c9) = z9 at *
    skip
    have HL3 : Hid (∀ w', Turns (fun k => k = w.heap.size + 2 ∨ k = w.heap.size + 3) z9 w' → w'.rangeAt w.heap.size 0 (rdA T6 D6).toList) := fun w' hb => row_rangeR (hb.keep HPQ.out.r3 (by rintro (h | h) <;> omega))
    have HL4 : Hid (∀ w', Turns (fun k => k = w.heap.size + 2 ∨ k = w.heap.size + 3) z9 w' → w'.rangeAt (w.heap.size + 1) 0 (rsA a b ⟨(I : Int), TN, x⟩ p9 c9).toList) := fun w' hb => row_rangeR (hb.keep HPQ.out.r4 (by rintro (h | h) <;> omega))
    refine wp_region_tree (Turns (fun k => k = w.heap.size + 2 ∨ k = w.heap.size + 3) z9) (.take 0 (.take 1 (.one 2 (.one 3 (.one 4 .nil))))) (by kernel_rfl) (by kernel_rfl) (Turns.of_below (below_drew1 _ _)) ?_
    have hy0 : Below z9.heap.size z9 z9.drew := below_drew1 _ _
    refine tree_load rfl (by rfl) 65 _ rfl w.heap.size 0 rfl (rdA T6 D6) _ (fun w' hb => HL3.out w' hb) Tryz.underlying65 rfl (infoRD _ (rdA_size HPQ.out.rd.n3 HPQ.out.rd.m3)) ?_
    try simp only [Act.put, zA, zB, zC]
    refine tree_load rfl (by rfl) 74 _ rfl (w.heap.size + 1) 0 rfl (rsA a b ⟨(I : Int), TN, x⟩ p9 c9) _ (fun w' hb => HL4.out w' hb) Tryz.underlying74 rfl (infoRS _ rfl) ?_
    try simp only [Act.put, zA, zB, zC]
    repeat (apply tree_take; (· rfl); (· rfl); (· (intro w' hb'; go_simp; try with_reducible rfl)); try simp only [Act.put, zA, zB, zC])
    have hq1 := HPQ.out.next hy0
    have ht0 : Turns (fun k => k = w.heap.size + 2 ∨ k = w.heap.size + 3) z9 z9.drew := Turns.of_below hy0
    clear HL3 HL4 HPQ hy0
    generalize z9.drew = wD at *
    refine tree_one rfl (by rfl) (fun K hK => oper_of_list rfl ?_)
    refine wpList_store_row rfl 65 _ _ rfl (w.heap.size + 2) (rdA T6 D6) rfl rfl 65 zD hq1.r6 (infoRD _ (rdA_size hq1.rd.n3 hq1.rd.m3)) (by rw [rdA_size hq1.rd.n3 hq1.rd.m3]; rfl) (rdA_one hq1.rd.n3 hq1.rd.m3) ?_
    have ht1 := ht0.trans (turns_setRow wD (w.heap.size + 2) (rdA T6 D6)) (fun k _ hk => .inl hk)
    refine only_end (Shut.out hK _ _ ht1 ?_)
    clear hK K
    try simp only [Act.put]
    have hr7 : (wD.setRow (w.heap.size + 2) (rdA T6 D6)).heap[w.heap.size + 3]? = some (.cells zS 74 (0, 0)) := by rw [setRow_other _ _ _ _ (by omega)]; exact hq1.r7
    refine tree_one rfl (by rfl) (fun K hK => oper_of_list rfl ?_)
    refine wpList_store_row rfl 74 _ _ rfl (w.heap.size + 3) (rsA a b ⟨(I : Int), TN, x⟩ p9 c9) rfl rfl 74 zS hr7 (infoRS _ rfl) rfl (rsA_one _ _ _ _ _) ?_
    have ht2 := ht1.trans (turns_setRow (wD.setRow (w.heap.size + 2) (rdA T6 D6)) (w.heap.size + 3) (rsA a b ⟨(I : Int), TN, x⟩ p9 c9)) (fun k _ hk => .inr hk)
    refine only_end (Shut.out hK _ _ ht2 ?_)
    clear hK K
    try simp only [Act.put]
    refine tree_one rfl (by rfl) (fun K hK => ?_)
    go_simp
    refine Shut.out hK _ _ ht2 ?_
    clear hK K
    try simp only [Act.put, zA, zB, zC]
    refine tree_nil ?_
    go_wp2_with fail
    have hs1 : ((wD.setRow (w.heap.size + 2) (rdA T6 D6)).setRow (w.heap.size + 3) (rsA a b ⟨(I : Int), TN, x⟩ p9 c9)).heap[w.heap.size + 2]? = some (.cells (rdA T6 D6) 65 (0, 0)) := by rw [setRow_other _ _ _ _ (by omega)]; exact setRow_heap _ _ _ _ _ _ hq1.r6
    have hs2 := setRow_heap _ _ _ (rsA a b ⟨(I : Int), TN, x⟩ p9 c9) _ _ hr7
    have hk : KR 0 wD ((wD.setRow (w.heap.size + 2) (rdA T6 D6)).setRow (w.heap.size + 3) (rsA a b ⟨(I : Int), TN, x⟩ p9 c9)) := (kr_turn (turns_setRow _ _ _) hq1.r6 (by decide) (by decide)).trans (kr_turn (turns_setRow _ _ _) hr7 (by decide) (by decide))
    refine bodyPost_ret (results_cells2_tmp rfl _ _ _ _ _ _ _ _ _ _ _ _ rfl rfl hs1 hs2 Tryz.underlying65 rfl (infoRD _ (rdA_size hq1.rd.n3 hq1.rd.m3)) Tryz.underlying74 rfl (infoRS _ rfl)) rfl ?_
    obtain ⟨f1, f2, f3⟩ := HFIN.out
    unfold RPuP
    rw [f1, f2, f3]
    exact ⟨T6, p9, c9, rfl, hq1.rd.step hk, hq1.rb.step hk, below_setRow (below_setRow hq1.low (by omega) _) (by omega) _⟩
   | false =>
    have HAC : Hid (acts d I (wrapB s x) = [.put (wrapB s x), .sync]) := by
     show _ = _
     unfold acts
     rw [HFULL.out]; rfl
    rw [HAC.out] at HPN
    go_upto_region 14 with fail
    skip
    have HIL : Hid (I < d.fs.length) := by show _ < _; rw [HPQ.out.rd.m3]; exact HI3.out
    have HL3 : Hid (∀ w', Below w5.heap.size w5 w' → w'.rangeAt w.heap.size 0 (rdA ts d).toList) := fun w' hb => row_rangeR (Below.keepOld hb HPQ.out.r3)
    have HT3 : Hid (∀ w', Below w5.heap.size w5 w' → w'.cell? ⟨w.heap.size + 1, 3, none⟩ = some (.int .u64 (s.turn : Int))) := fun w' hb => (rs_cells (Below.keepOld hb HPQ.out.r4)).2.2.2.1
    have HXB := Lib.hid (HX.out.below HPQ.out.low)
    refine wp_region_eager_u (Below w5.heap.size w5) [0, 1, 2, 3, 4, 6] [(0, true), (1, true), (2, true), (3, true), (4, true), (6, true), (5, false), (7, false), (8, false), (9, false)] (.take 10 (.take 11 (.take 12 (.one 13 (.one 14 .nil))))) (by kernel_rfl) (by kernel_rfl) ?_ (eagerUOpen rfl ?_)
    ·exact below_drew1 _ _
    have hy0 : Below w5.heap.size w5 w5.drew := below_drew1 _ _
    repeat (first
     | ((with_reducible refine eagerULoadAt 3 ?_); refine wpEagerU_load (by rfl) 65 _ rfl w.heap.size 0 rfl (rdA ts d) _ (fun w' hb => HL3.out w' hb) Tryz.underlying65 rfl (infoRD _ (rdA_size HPQ.out.rd.n3 HPQ.out.rd.m3)) ?_; (try simp only [Act.put, zA, zB, zC]); (try refine eagerUOpen rfl ?_))
     | (apply wpEagerU_take; (· rfl); (· (intro w' hb'; have hk' := (HT3.out) w' hb'; go_split_ands; go_simp; try with_reducible rfl)); (try simp only [Act.put, zA, zB, zC]); (try refine eagerUOpen rfl ?_))
     | ((first | (apply wpEagerU_take; (· rfl); (· (intro w' hb'; go_simp; try with_reducible rfl))) | refine wpEagerU_skip (by rfl) ?_); (try simp only [Act.put, zA, zB, zC]); (try refine eagerUOpen rfl ?_)))
    (refine wpEagerU_op (by rfl) (fun K hK => ?_); go_simp; (refine (number8 w5.drew TN HTL.out).mono ?_; rintro e y8 ⟨p8, c8, rfl, ho, hb⟩; have hy1 : Below w5.heap.size w5 y8 := hy0.trans hb; have HO8 := Lib.hid ho; clear ho hb); refine Shut.out hK _ _ (by assumption) ?_; clear hK K; (try simp only [Act.put, zA, zB, zC]); (try refine eagerUOpen rfl ?_))
    have HB8 : Hid (w5.heap.size ≤ y8.heap.size) := hy1.size
    have HXS := Lib.hid (HXB.out.below hy1)
    refine wpEagerU_op (by rfl) (fun K hK => oper_of_list rfl ?_)
    refine wpList_append_nx rfl _ _ 22 rfl (base := w5.drew.heap.size) Tryz.underlying22 Frm.info8b rfl (by omega) rfl HO8.out rfl HXS.out (bytesV_one _) ⟨by omega, by omega⟩ HB8.out ?_
    intro p9 c9 y9 ho9 hgr hnx _
    have hb9 := own_below HO8.out hgr HB8.out
    have hy2 : Below w5.heap.size w5 y9 := hy1.trans (show Below w5.heap.size y8 y9 from hb9)
    have HFB : Hid (Bs y9 p9 (8 + x.length) c9 (be TN 8 ++ x)) := by
     rw [← bytesV_append] at ho9
     exact Cut.own_bs ho9
    have HWB : Hid (frame (be TN 8 ++ x) = wrapB s x) := by show _ = _; unfold wrapB; rw [HTN.out]
    have HWL : Hid ((wrapB s x).length ≤ 60000) := by show _ ≤ _; rw [← HWB.out, Frm.frame_length, List.length_append, be_length]; omega
    have HFR := Lib.hid (Frm.rbytes_any p9 (8 + x.length) c9 (be TN 8 ++ x) y9 HFB.out (by omega))
    rw [HWB.out] at HFR
    refine only_end (Shut.out hK _ _ hy2 ?_)
    clear hK K ho9 hgr hnx hb9 HO8 HXS HB8 HFB HWB
    (try simp only [Act.put, zA, zB, zC]); (try refine eagerUOpen rfl ?_)
    (refine wpEagerU_op (by rfl) (fun K hK => ?_); go_simp; (refine HFR.out.mono ?_; rintro e yF ⟨pF, cF, rfl, ho, hb⟩; have HOF := Lib.hid (Cut.own_bs ho); have hy3 : Below w5.heap.size w5 yF := hy2.trans (hb.mono hy2.size); clear ho hb); refine Shut.out hK _ _ (by assumption) ?_; clear hK K; (try simp only [Act.put, zA, zB, zC]); (try refine eagerUOpen rfl ?_))
    have HPC : Hid (Calls Tryz.prog 25 #[.agg (rdA ts d), .int .i64 (I : Int), .slice pF (wrapB s x).length cF] yF (ROut (stpD d I (.put (wrapB s x))) (stpE d I (.put (wrapB s x))) yF)) := rput_in ts d I HI3.out pF (wrapB s x) cF yF (HPQ.out.rd.below hy3) HG.out.used HOF.out HWL.out (by have := fewfd (i := I) HG.out.few; omega)
    (refine wpEagerU_op (by rfl) (fun K hK => ?_); go_simp; (refine HPC.out.mono ?_; rintro e yP ⟨T5, rfl, hr, hb⟩; have HR5 := Lib.hid hr; have hy4 : Below w5.heap.size w5 yP := hy3.trans (hb.mono hy3.size); clear hr hb); refine Shut.out hK _ _ (by assumption) ?_; clear hK K; (try simp only [Act.put, zA, zB, zC]); (try refine eagerUOpen rfl ?_))
    refine eagerUEnd ?_
    have hq := HPQ.out.next hy4
    have HQR := Lib.hid hq.r3
    have HSZ3 : Hid ((rdA ts d).size = (rdA T5 (stpD d I (.put (wrapB s x)))).size) := by show _ = _; rw [rdA_size hq.rd.n3 hq.rd.m3, rdA_size HR5.out.n3 HR5.out.m3]
    have HP5 := Lib.hid (hq.disk HR5.out)
    have HOK5 : Hid (stpE d I (.put (wrapB s x)) = 0 → Pnd d s a b x I [.sync] (stpD d I (.put (wrapB s x)))) := fun h => HPN.out.ok h
    have HNO5 : Hid (¬ stpE d I (.put (wrapB s x)) = 0 → putSD d s a b x = stpD d I (.put (wrapB s x)) ∧ putSS d s a b x = s ∧ putSE d s a b x = stpE d I (.put (wrapB s x))) := fun h => HPN.out.no h
    obtain ⟨M5, HG5⟩ : ∃ M, Hid (Gd (stpD d I (.put (wrapB s x))) M) := ⟨_, HG.out.did HIL.out _⟩
    clear hq HPN HPQ HL3 HT3 HXB HPC HFR HOF HWL hy0 hy1 hy2 hy3 hy4 HIL HG HR5
    generalize stpE d I (.put (wrapB s x)) = E5 at *
    generalize stpD d I (.put (wrapB s x)) = D5 at *
    repeat (apply tree_take; (· rfl); (· rfl); (· (intro w' hb'; go_simp; try with_reducible rfl)); try simp only [Act.put, zA, zB, zC])
    refine tree_one rfl (by rfl) (fun K hK => oper_of_list rfl ?_)
    refine wpList_store_row rfl 65 _ _ rfl w.heap.size (rdA T5 D5) rfl rfl 65 (rdA ts d) HQR.out (infoRD _ (rdA_size HP5.out.rd.n3 HP5.out.rd.m3)) HSZ3.out (rdA_one HP5.out.rd.n3 HP5.out.rd.m3) ?_
    refine only_end (Shut.out hK _ _ trivial ?_)
    clear hK K HQR HSZ3
    try simp only [Act.put]
    generalize yP.setRow w.heap.size (rdA T5 D5) = z5 at *
    refine tree_one rfl (by rfl) (fun K hK => ?_)
    go_simp
    refine Shut.out hK _ _ trivial ?_
    clear hK K
    try simp only [Act.put, zA, zB, zC]
    refine tree_nil ?_
    by_cases he1 : E5 = 0
    rotate_left
    ·have q1 : (E5 != 0) = true := bne_iff_ne.2 he1
     have HFIN := Lib.hid (HNO5.out he1)
     have HPQ := HP5
     clear he1 HOK5
     go_upto_region 16 with fail
     skip
     have HL3 : Hid (∀ w', Turns (fun k => k = w.heap.size + 2 ∨ k = w.heap.size + 3) z5 w' → w'.rangeAt w.heap.size 0 (rdA T5 D5).toList) := fun w' hb => row_rangeR (hb.keep HPQ.out.r3 (by rintro (h | h) <;> omega))
     have HL4 : Hid (∀ w', Turns (fun k => k = w.heap.size + 2 ∨ k = w.heap.size + 3) z5 w' → w'.rangeAt (w.heap.size + 1) 0 (rsA a b s p c).toList) := fun w' hb => row_rangeR (hb.keep HPQ.out.r4 (by rintro (h | h) <;> omega))
     refine wp_region_tree (Turns (fun k => k = w.heap.size + 2 ∨ k = w.heap.size + 3) z5) (.take 0 (.take 1 (.take 2 (.one 3 (.one 4 (.one 5 .nil)))))) (by kernel_rfl) (by kernel_rfl) (Turns.of_below (below_drew1 _ _)) ?_
     have hy0 : Below z5.heap.size z5 z5.drew := below_drew1 _ _
     refine tree_load rfl (by rfl) 65 _ rfl w.heap.size 0 rfl (rdA T5 D5) _ (fun w' hb => HL3.out w' hb) Tryz.underlying65 rfl (infoRD _ (rdA_size HPQ.out.rd.n3 HPQ.out.rd.m3)) ?_
     try simp only [Act.put, zA, zB, zC]
     refine tree_load rfl (by rfl) 74 _ rfl (w.heap.size + 1) 0 rfl (rsA a b s p c) _ (fun w' hb => HL4.out w' hb) Tryz.underlying74 rfl (infoRS _ rfl) ?_
     try simp only [Act.put, zA, zB, zC]
     repeat (apply tree_take; (· rfl); (· rfl); (· (intro w' hb'; go_simp; try with_reducible rfl)); try simp only [Act.put, zA, zB, zC])
     have hq1 := HPQ.out.next hy0
     have ht0 : Turns (fun k => k = w.heap.size + 2 ∨ k = w.heap.size + 3) z5 z5.drew := Turns.of_below hy0
     clear HL3 HL4 HPQ hy0
     generalize z5.drew = wD at *
     refine tree_one rfl (by rfl) (fun K hK => oper_of_list rfl ?_)
     refine wpList_store_row rfl 65 _ _ rfl (w.heap.size + 2) (rdA T5 D5) rfl rfl 65 zD hq1.r6 (infoRD _ (rdA_size hq1.rd.n3 hq1.rd.m3)) (by rw [rdA_size hq1.rd.n3 hq1.rd.m3]; rfl) (rdA_one hq1.rd.n3 hq1.rd.m3) ?_
     have ht1 := ht0.trans (turns_setRow wD (w.heap.size + 2) (rdA T5 D5)) (fun k _ hk => .inl hk)
     refine only_end (Shut.out hK _ _ ht1 ?_)
     clear hK K
     try simp only [Act.put]
     have hr7 : (wD.setRow (w.heap.size + 2) (rdA T5 D5)).heap[w.heap.size + 3]? = some (.cells zS 74 (0, 0)) := by rw [setRow_other _ _ _ _ (by omega)]; exact hq1.r7
     refine tree_one rfl (by rfl) (fun K hK => oper_of_list rfl ?_)
     refine wpList_store_row rfl 74 _ _ rfl (w.heap.size + 3) (rsA a b s p c) rfl rfl 74 zS hr7 (infoRS _ rfl) rfl (rsA_one _ _ _ _ _) ?_
     have ht2 := ht1.trans (turns_setRow (wD.setRow (w.heap.size + 2) (rdA T5 D5)) (w.heap.size + 3) (rsA a b s p c)) (fun k _ hk => .inr hk)
     refine only_end (Shut.out hK _ _ ht2 ?_)
     clear hK K
     try simp only [Act.put]
     refine tree_one rfl (by rfl) (fun K hK => ?_)
     go_simp
     refine Shut.out hK _ _ ht2 ?_
     clear hK K
     try simp only [Act.put, zA, zB, zC]
     refine tree_nil ?_
     go_wp2_with fail
     have hs1 : ((wD.setRow (w.heap.size + 2) (rdA T5 D5)).setRow (w.heap.size + 3) (rsA a b s p c)).heap[w.heap.size + 2]? = some (.cells (rdA T5 D5) 65 (0, 0)) := by rw [setRow_other _ _ _ _ (by omega)]; exact setRow_heap _ _ _ _ _ _ hq1.r6
     have hs2 := setRow_heap _ _ _ (rsA a b s p c) _ _ hr7
     have hk : KR 0 wD ((wD.setRow (w.heap.size + 2) (rdA T5 D5)).setRow (w.heap.size + 3) (rsA a b s p c)) := (kr_turn (turns_setRow _ _ _) hq1.r6 (by decide) (by decide)).trans (kr_turn (turns_setRow _ _ _) hr7 (by decide) (by decide))
     refine bodyPost_ret (results_cells2_tmp rfl _ _ _ _ _ _ _ _ _ _ _ _ rfl rfl hs1 hs2 Tryz.underlying65 rfl (infoRD _ (rdA_size hq1.rd.n3 hq1.rd.m3)) Tryz.underlying74 rfl (infoRS _ rfl)) rfl ?_
     obtain ⟨f1, f2, f3⟩ := HFIN.out
     unfold RPuP
     rw [f1, f2, f3]
     exact ⟨T5, p, c, rfl, hq1.rd.step hk, hq1.rb.step hk, below_setRow (below_setRow hq1.low (by omega) _) (by omega) _⟩
    have q1 : (E5 != 0) = false := by rw [bne_eq_false_iff_eq]; exact he1
    have HPN := Lib.hid (HOK5.out he1)
    have HPQ := HP5
    have HIL : Hid (I < D5.fs.length) := by show _ < _; rw [HPQ.out.rd.m3]; exact HI3.out
    have HOKF : Hid (fD D5 I).Ok := RDB.okF HPQ.out.rd HI3.out
    have HC : Hid (Calls Tryz.prog 104 #[.agg (rdA T5 D5), .int .i64 (I : Int)] z5 (ROut (stpD D5 I .sync) (stpE D5 I .sync) z5)) := rsync_in T5 D5 I HI3.out (fD D5 I) (HPQ.out.rd.fd HI3.out) z5 HPQ.out.rd
    clear he1 HOK5 HNO5 HP5
    go_upto_region 17 with fail
    clear q1
    skip
    go_wp2_with (refine wpList_load_row rfl 65 _ rfl w.heap.size rfl 65 (rdA T5 D5) (0, 0) _ HPQ.out.r3 Tryz.underlying65 rfl (infoRD _ (rdA_size HPQ.out.rd.n3 HPQ.out.rd.m3)) ?_)
    refine HC.out.mono ?_
    rintro e y6 ⟨T6, rfl, hr, hb⟩
    have hq := HPQ.out.next hb
    have HQR := Lib.hid hq.r3
    have HSZ3 : Hid ((rdA T5 D5).size = (rdA T6 (stpD D5 I .sync)).size) := by show _ = _; rw [rdA_size hq.rd.n3 hq.rd.m3, rdA_size hr.n3 hr.m3]
    have HP6 := Lib.hid (hq.disk hr)
    have HOK6 : Hid (stpE D5 I .sync = 0 → Pnd d s a b x I [] (stpD D5 I .sync)) := fun h => HPN.out.ok h
    have HNO6 : Hid (¬ stpE D5 I .sync = 0 → putSD d s a b x = stpD D5 I .sync ∧ putSS d s a b x = s ∧ putSE d s a b x = stpE D5 I .sync) := fun h => HPN.out.no h
    clear hq hr hb HPQ HC HPN
    have HG6 : Hid (Gd (stpD D5 I .sync) (M5)) := HG5.out.synd HIL.out HOKF.out
    generalize stpE D5 I .sync = E6 at *
    generalize stpD D5 I .sync = D6 at *
    go_upto_region 18 with (refine wpList_store_row rfl 65 _ _ rfl w.heap.size (rdA T6 D6) rfl rfl 65 (rdA T5 D5) HQR.out (infoRD _ (rdA_size HP6.out.rd.n3 HP6.out.rd.m3)) HSZ3.out (rdA_one HP6.out.rd.n3 HP6.out.rd.m3) ?_)
    try simp only [Act.put, zA, zB, zC]
    clear HQR HSZ3
    generalize y6.setRow w.heap.size (rdA T6 D6) = z6 at *
    by_cases he1 : E6 = 0
    rotate_left
    ·have q1 : (E6 != 0) = true := bne_iff_ne.2 he1
     have HFIN := Lib.hid (HNO6.out he1)
     have HPQ := HP6
     clear he1 HOK6
     go_upto_region 19 with fail
     skip
     have HL3 : Hid (∀ w', Turns (fun k => k = w.heap.size + 2 ∨ k = w.heap.size + 3) z6 w' → w'.rangeAt w.heap.size 0 (rdA T6 D6).toList) := fun w' hb => row_rangeR (hb.keep HPQ.out.r3 (by rintro (h | h) <;> omega))
     have HL4 : Hid (∀ w', Turns (fun k => k = w.heap.size + 2 ∨ k = w.heap.size + 3) z6 w' → w'.rangeAt (w.heap.size + 1) 0 (rsA a b s p c).toList) := fun w' hb => row_rangeR (hb.keep HPQ.out.r4 (by rintro (h | h) <;> omega))
     refine wp_region_tree (Turns (fun k => k = w.heap.size + 2 ∨ k = w.heap.size + 3) z6) (.take 0 (.take 1 (.take 2 (.one 3 (.one 4 (.one 5 .nil)))))) (by kernel_rfl) (by kernel_rfl) (Turns.of_below (below_drew1 _ _)) ?_
     have hy0 : Below z6.heap.size z6 z6.drew := below_drew1 _ _
     refine tree_load rfl (by rfl) 65 _ rfl w.heap.size 0 rfl (rdA T6 D6) _ (fun w' hb => HL3.out w' hb) Tryz.underlying65 rfl (infoRD _ (rdA_size HPQ.out.rd.n3 HPQ.out.rd.m3)) ?_
     try simp only [Act.put, zA, zB, zC]
     refine tree_load rfl (by rfl) 74 _ rfl (w.heap.size + 1) 0 rfl (rsA a b s p c) _ (fun w' hb => HL4.out w' hb) Tryz.underlying74 rfl (infoRS _ rfl) ?_
     try simp only [Act.put, zA, zB, zC]
     repeat (apply tree_take; (· rfl); (· rfl); (· (intro w' hb'; go_simp; try with_reducible rfl)); try simp only [Act.put, zA, zB, zC])
     have hq1 := HPQ.out.next hy0
     have ht0 : Turns (fun k => k = w.heap.size + 2 ∨ k = w.heap.size + 3) z6 z6.drew := Turns.of_below hy0
     clear HL3 HL4 HPQ hy0
     generalize z6.drew = wD at *
     refine tree_one rfl (by rfl) (fun K hK => oper_of_list rfl ?_)
     refine wpList_store_row rfl 65 _ _ rfl (w.heap.size + 2) (rdA T6 D6) rfl rfl 65 zD hq1.r6 (infoRD _ (rdA_size hq1.rd.n3 hq1.rd.m3)) (by rw [rdA_size hq1.rd.n3 hq1.rd.m3]; rfl) (rdA_one hq1.rd.n3 hq1.rd.m3) ?_
     have ht1 := ht0.trans (turns_setRow wD (w.heap.size + 2) (rdA T6 D6)) (fun k _ hk => .inl hk)
     refine only_end (Shut.out hK _ _ ht1 ?_)
     clear hK K
     try simp only [Act.put]
     have hr7 : (wD.setRow (w.heap.size + 2) (rdA T6 D6)).heap[w.heap.size + 3]? = some (.cells zS 74 (0, 0)) := by rw [setRow_other _ _ _ _ (by omega)]; exact hq1.r7
     refine tree_one rfl (by rfl) (fun K hK => oper_of_list rfl ?_)
     refine wpList_store_row rfl 74 _ _ rfl (w.heap.size + 3) (rsA a b s p c) rfl rfl 74 zS hr7 (infoRS _ rfl) rfl (rsA_one _ _ _ _ _) ?_
     have ht2 := ht1.trans (turns_setRow (wD.setRow (w.heap.size + 2) (rdA T6 D6)) (w.heap.size + 3) (rsA a b s p c)) (fun k _ hk => .inr hk)
     refine only_end (Shut.out hK _ _ ht2 ?_)
     clear hK K
     try simp only [Act.put]
     refine tree_one rfl (by rfl) (fun K hK => ?_)
     go_simp
     refine Shut.out hK _ _ ht2 ?_
     clear hK K
     try simp only [Act.put, zA, zB, zC]
     refine tree_nil ?_
     go_wp2_with fail
     have hs1 : ((wD.setRow (w.heap.size + 2) (rdA T6 D6)).setRow (w.heap.size + 3) (rsA a b s p c)).heap[w.heap.size + 2]? = some (.cells (rdA T6 D6) 65 (0, 0)) := by rw [setRow_other _ _ _ _ (by omega)]; exact setRow_heap _ _ _ _ _ _ hq1.r6
     have hs2 := setRow_heap _ _ _ (rsA a b s p c) _ _ hr7
     have hk : KR 0 wD ((wD.setRow (w.heap.size + 2) (rdA T6 D6)).setRow (w.heap.size + 3) (rsA a b s p c)) := (kr_turn (turns_setRow _ _ _) hq1.r6 (by decide) (by decide)).trans (kr_turn (turns_setRow _ _ _) hr7 (by decide) (by decide))
     refine bodyPost_ret (results_cells2_tmp rfl _ _ _ _ _ _ _ _ _ _ _ _ rfl rfl hs1 hs2 Tryz.underlying65 rfl (infoRD _ (rdA_size hq1.rd.n3 hq1.rd.m3)) Tryz.underlying74 rfl (infoRS _ rfl)) rfl ?_
     obtain ⟨f1, f2, f3⟩ := HFIN.out
     unfold RPuP
     rw [f1, f2, f3]
     exact ⟨T6, p, c, rfl, hq1.rd.step hk, hq1.rb.step hk, below_setRow (below_setRow hq1.low (by omega) _) (by omega) _⟩
    have q1 : (E6 != 0) = false := by rw [bne_eq_false_iff_eq]; exact he1
    have HFIN0 := Lib.hid (HOK6.out he1).end
    have HPQ := HP6
    clear he1 HOK6 HNO6 HP6 HIL HOKF HG5 HG6
    obtain ⟨_, _, c2, c3, c4, hfz⟩ := rs_cells HPQ.out.r4
    have hq1 := HPQ.out.cell (s' := ⟨(I : Int), s.turn, s.body⟩) (p' := p) (c' := c) 2 (.int .i64 (I : Int)) rfl HPQ.out.rb
    have hq2 := hq1.cell (s' := ⟨(I : Int), TN, s.body⟩) (p' := p) (c' := c) 3 (.int .u64 (TN : Int)) rfl hq1.rb
    go_upto_region 22 with fail
    clear c2 c3 c4 hfz hq1 HPQ q1
    generalize (z6.setCell ⟨w.heap.size + 1, 2, none⟩ (.int .i64 (I : Int))).setCell ⟨w.heap.size + 1, 3, none⟩ (.int .u64 (TN : Int)) = z8 at *
    have HQ2 := Lib.hid hq2
    have hal := Below.allocs z8 (.cells #[] 5)
    have HO0 : Hid ((z8.alloc (.cells #[] 5)).ownsRow z8.heap.size 5 1 (.slice (some ⟨z8.heap.size, 0, none⟩) 0 0) 0 []) := own_made0 z8 _ _ _ _ rfl (Nat.le_refl _)
    have HXS := Lib.hid ((HX.out.below hq2.low).below hal)
    have HZS := Lib.hid hal.size
    have HZL := Lib.hid hal
    clear hq2 hal
    go_wp2_with (at_builtin; refine wpList_append_nx rfl _ _ 22 rfl (base := z8.heap.size) Tryz.underlying22 Frm.info8b rfl (by omega) rfl HO0.out rfl HXS.out (bytesV_one _) ⟨by omega, by omega⟩ HZS.out ?_)
    intro p9 c9 y9 ho9 hgr hnx _
    have hb9 := HZL.out.trans (own_below HO0.out hgr HZS.out)
    have hq3 := HQ2.out.next hb9
    try simp only [Nat.zero_add, List.nil_append] at ho9
    try simp only [Nat.zero_add]
    obtain ⟨_, _, _, _, c4, hfz⟩ := rs_cells hq3.r4
    have HPQ := Lib.hid (hq3.cell (s' := ⟨(I : Int), TN, x⟩) (p' := p9) (c' := c9) 4 (.slice p9 x.length c9) rfl (RBs.own ho9))
    have HFIN : Hid (putSD d s a b x = D6 ∧ putSS d s a b x = ⟨(I : Int), TN, x⟩ ∧ putSE d s a b x = 0) := by
     have h := HFIN0.out
     rw [HTN.out] at h
     exact h
    clear ho9 hgr hnx hb9 hq3 HQ2 HO0 HXS HZS HZL HFIN0
    go_upto_region 23 with fail
    clear c4 hfz
    generalize y9.setCell ⟨w.heap.size + 1, 4, none⟩ (.slice p9 x.length c9) = z9 at *
    skip
    have HL3 : Hid (∀ w', Turns (fun k => k = w.heap.size + 2 ∨ k = w.heap.size + 3) z9 w' → w'.rangeAt w.heap.size 0 (rdA T6 D6).toList) := fun w' hb => row_rangeR (hb.keep HPQ.out.r3 (by rintro (h | h) <;> omega))
    have HL4 : Hid (∀ w', Turns (fun k => k = w.heap.size + 2 ∨ k = w.heap.size + 3) z9 w' → w'.rangeAt (w.heap.size + 1) 0 (rsA a b ⟨(I : Int), TN, x⟩ p9 c9).toList) := fun w' hb => row_rangeR (hb.keep HPQ.out.r4 (by rintro (h | h) <;> omega))
    refine wp_region_tree (Turns (fun k => k = w.heap.size + 2 ∨ k = w.heap.size + 3) z9) (.take 0 (.take 1 (.one 2 (.one 3 (.one 4 .nil))))) (by kernel_rfl) (by kernel_rfl) (Turns.of_below (below_drew1 _ _)) ?_
    have hy0 : Below z9.heap.size z9 z9.drew := below_drew1 _ _
    refine tree_load rfl (by rfl) 65 _ rfl w.heap.size 0 rfl (rdA T6 D6) _ (fun w' hb => HL3.out w' hb) Tryz.underlying65 rfl (infoRD _ (rdA_size HPQ.out.rd.n3 HPQ.out.rd.m3)) ?_
    try simp only [Act.put, zA, zB, zC]
    refine tree_load rfl (by rfl) 74 _ rfl (w.heap.size + 1) 0 rfl (rsA a b ⟨(I : Int), TN, x⟩ p9 c9) _ (fun w' hb => HL4.out w' hb) Tryz.underlying74 rfl (infoRS _ rfl) ?_
    try simp only [Act.put, zA, zB, zC]
    repeat (apply tree_take; (· rfl); (· rfl); (· (intro w' hb'; go_simp; try with_reducible rfl)); try simp only [Act.put, zA, zB, zC])
    have hq1 := HPQ.out.next hy0
    have ht0 : Turns (fun k => k = w.heap.size + 2 ∨ k = w.heap.size + 3) z9 z9.drew := Turns.of_below hy0
    clear HL3 HL4 HPQ hy0
    generalize z9.drew = wD at *
    refine tree_one rfl (by rfl) (fun K hK => oper_of_list rfl ?_)
    refine wpList_store_row rfl 65 _ _ rfl (w.heap.size + 2) (rdA T6 D6) rfl rfl 65 zD hq1.r6 (infoRD _ (rdA_size hq1.rd.n3 hq1.rd.m3)) (by rw [rdA_size hq1.rd.n3 hq1.rd.m3]; rfl) (rdA_one hq1.rd.n3 hq1.rd.m3) ?_
    have ht1 := ht0.trans (turns_setRow wD (w.heap.size + 2) (rdA T6 D6)) (fun k _ hk => .inl hk)
    refine only_end (Shut.out hK _ _ ht1 ?_)
    clear hK K
    try simp only [Act.put]
    have hr7 : (wD.setRow (w.heap.size + 2) (rdA T6 D6)).heap[w.heap.size + 3]? = some (.cells zS 74 (0, 0)) := by rw [setRow_other _ _ _ _ (by omega)]; exact hq1.r7
    refine tree_one rfl (by rfl) (fun K hK => oper_of_list rfl ?_)
    refine wpList_store_row rfl 74 _ _ rfl (w.heap.size + 3) (rsA a b ⟨(I : Int), TN, x⟩ p9 c9) rfl rfl 74 zS hr7 (infoRS _ rfl) rfl (rsA_one _ _ _ _ _) ?_
    have ht2 := ht1.trans (turns_setRow (wD.setRow (w.heap.size + 2) (rdA T6 D6)) (w.heap.size + 3) (rsA a b ⟨(I : Int), TN, x⟩ p9 c9)) (fun k _ hk => .inr hk)
    refine only_end (Shut.out hK _ _ ht2 ?_)
    clear hK K
    try simp only [Act.put]
    refine tree_one rfl (by rfl) (fun K hK => ?_)
    go_simp
    refine Shut.out hK _ _ ht2 ?_
    clear hK K
    try simp only [Act.put, zA, zB, zC]
    refine tree_nil ?_
    go_wp2_with fail
    have hs1 : ((wD.setRow (w.heap.size + 2) (rdA T6 D6)).setRow (w.heap.size + 3) (rsA a b ⟨(I : Int), TN, x⟩ p9 c9)).heap[w.heap.size + 2]? = some (.cells (rdA T6 D6) 65 (0, 0)) := by rw [setRow_other _ _ _ _ (by omega)]; exact setRow_heap _ _ _ _ _ _ hq1.r6
    have hs2 := setRow_heap _ _ _ (rsA a b ⟨(I : Int), TN, x⟩ p9 c9) _ _ hr7
    have hk : KR 0 wD ((wD.setRow (w.heap.size + 2) (rdA T6 D6)).setRow (w.heap.size + 3) (rsA a b ⟨(I : Int), TN, x⟩ p9 c9)) := (kr_turn (turns_setRow _ _ _) hq1.r6 (by decide) (by decide)).trans (kr_turn (turns_setRow _ _ _) hr7 (by decide) (by decide))
    refine bodyPost_ret (results_cells2_tmp rfl _ _ _ _ _ _ _ _ _ _ _ _ rfl rfl hs1 hs2 Tryz.underlying65 rfl (infoRD _ (rdA_size hq1.rd.n3 hq1.rd.m3)) Tryz.underlying74 rfl (infoRS _ rfl)) rfl ?_
    obtain ⟨f1, f2, f3⟩ := HFIN.out
    unfold RPuP
    rw [f1, f2, f3]
    exact ⟨T6, p9, c9, rfl, hq1.rd.step hk, hq1.rb.step hk, below_setRow (below_setRow hq1.low (by omega) _) (by omega) _⟩
end Go.Proofs.YtnejjfglkindjaaGreatDoor.Slt
