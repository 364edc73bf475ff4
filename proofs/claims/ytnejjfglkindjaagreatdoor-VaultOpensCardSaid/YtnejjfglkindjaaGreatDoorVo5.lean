/- PARTS, JOINED: SLOTS: the function that reads a file; none, Get, Turn, File. Conditions: the laid cell of errors.errorType. SLOTS: wrap, file, Open. Conditions: the laid cell of errors.errorType. VAULTS: numbers ahead of bytes (split, join). Conditions: the laid cell of errors.errorType. SLOTS: the calls that Put lays, one behind the other. Conditions: steps that fit. A REGION THAT DRAWS ITS ORDER, WALKED BY A TREE: what reads only what stood at its start is taken at once; where two operations may come next, both ways are walked. No program is named. Conditions: none. A REGION THAT DRAWS ITS ORDER, WALKED BY A TREE, where three operations may come next, too; and a region cut off from what comes behind it. No program is named. Conditions: none. -/
import Derived.Test.YtnejjfglkindjaaGreatDoorVo1
import Derived.Test.YtnejjfglkindjaaGreatDoorVo2
import Derived.Test.YtnejjfglkindjaaGreatDoorVo3
import Derived.Test.YtnejjfglkindjaaGreatDoorVo4
namespace Go.Proofs.YtnejjfglkindjaaGreatDoor.Slt
open Go.RowKit Go.Mir Go.Mir.Parts Dk Rol
open Frm (one)
theorem one_len (l : List UInt8) : (one l).1.length ≤ 65536 := by
 by_cases h : (one l).2.2 = 0
 ·exact (Frm.one_ok h).2.2.2.2.2
 ·have e : (one l).1 = [] := by
   unfold Frm.one at h ⊢
   split
   ·rfl
   ·rename_i h1
    rw [if_neg h1] at h
    split
    ·rfl
    ·rename_i h2
     rw [if_neg h2] at h
     split
     ·rfl
     ·rename_i h3
      rw [if_neg h3] at h
      split
      ·rename_i h4
       rw [if_pos h4] at h
       exact absurd rfl h
      ·rfl
  rw [e]; exact Nat.zero_le _
theorem num8_in {X : List UInt8} (h : 8 ≤ X.length) : (Rdr.RD.new X).numV 8 = Rdr.beN (X.take 8) ∧ (Rdr.RD.new X).numS 8 = ⟨X, 8, none⟩ := by
 have hf : Rdr.fitsW 8 = true := by decide
 unfold Rdr.RD.numV Rdr.RD.numS Rdr.RD.takeB Rdr.RD.takeS Rdr.RD.new
 rw [hf]
 dsimp only
 rw [if_pos ⟨rfl, rfl, by omega, by omega⟩, if_neg (by simp), if_neg (by simp), if_neg (by omega), List.drop_zero]
 exact ⟨rfl, rfl⟩
theorem num8_out {X : List UInt8} (h : ¬ 8 ≤ X.length) : ((Rdr.RD.new X).numS 8).err = 2 := by
 have hf : Rdr.fitsW 8 = true := by decide
 unfold Rdr.RD.numS Rdr.RD.takeS Rdr.RD.new
 rw [hf]
 dsimp only
 rw [if_neg (by simp), if_neg (by simp), if_pos (by omega)]
 rfl
theorem rest8 {X : List UInt8} (h : 8 ≤ X.length) : (⟨X, 8, none⟩ : Rdr.RD).takeB ((X.length - 8 : Nat) : Int) true = X.drop 8 := by
 unfold Rdr.RD.takeB
 dsimp only
 rw [if_pos ⟨rfl, rfl, by omega, by omega⟩]
 exact List.take_of_length_le (by rw [List.length_drop]; omega)
theorem own_ge {w : World} {base e size n : Nat} {v : Value} {xs : List Value} (h : w.ownsRow base e size v n xs) : ∀ k, v.ownBlock = some k → base ≤ k := fun k hk => by
 rcases h.2 with ⟨h1, _⟩ | ⟨g, cap, cur, h1, h2, _⟩
 ·rw [h1] at hk; simp [Value.ownBlock] at hk
 ·rw [h1] at hk; simp [Value.ownBlock] at hk; omega
def LoadP (l : List UInt8) (w : World) (e : Ending) (w' : World) : Prop := ∃ p c, e = .returned (.tuple #[.int .u64 ((loadP l).1 : Int), .slice p (loadP l).2.length c]) ∧ w'.ownsRow w.heap.size 5 1 (.slice p (loadP l).2.length c) (loadP l).2.length (bytesV (loadP l).2) ∧ Below w.heap.size w w'
set_option maxRecDepth 100000 in
theorem load_fn (db : Nat) (w : World) :
  Calls Tryz.prog 66 #[.pointer (some ⟨db, 0, none⟩)] w fun e w' => e = .returned (.func (.func 105) #[] #[.pointer (some ⟨w.heap.size, 0, none⟩)]) ∧ w' = w.alloc (.cells #[.pointer (some ⟨db, 0, none⟩)] 23) := by
 go_enter Tryz.func66, Tryz.ntmps66
 go_wp2_with fail
 go_ret
 exact ⟨rfl, rfl⟩
set_option maxRecDepth 100000 in
set_option maxHeartbeats 1600000 in
theorem load_any {base db i bx : Nat} {d : DD} (hi : i < 3) (w : World) (hE : Rdr.EType w) (hX : DX base db d w) (hbx : w.heap[bx]? = some (.cells #[.pointer (some ⟨db, 0, none⟩)] 23 (0, 0))) :
  Calls Tryz.prog 105 #[.int .i64 (i : Int), .pointer (some ⟨bx, 0, none⟩)] w (LoadP (fD d i).now w) := by
 have hcb : w.cell? ⟨bx, 0, none⟩ = some (.pointer (some ⟨db, 0, none⟩)) := by rw [cell_of_row _ _ _ _ _ _ hbx]; rfl
 have HLE := Lib.hid (hX.le hi)
 have HRD := Lib.hid (xread w hX i hi)
 have HE := Lib.hid hE
 clear hE hX hbx hi
 generalize (fD d i).now = L at *
 have HX65 := Lib.hid (one_len L)
 obtain ⟨X, hX⟩ : ∃ X, (one L).1 = X := ⟨_, rfl⟩
 obtain ⟨E, hE⟩ : ∃ E, (one L).2.2 = E := ⟨_, rfl⟩
 have HLP : Hid (loadP L = if E = 0 ∧ 8 ≤ X.length then (Rdr.beN (X.take 8), X.drop 8) else (0, [])) := by show _ = _; unfold loadP; rw [hX, hE]
 have HOX := Lib.hid hX
 have HOE := Lib.hid hE
 clear hX hE
 rw [HOX.out] at HX65
 go_enter Tryz.func105, Tryz.ntmps105
 go_wp2_with fail
 refine HRD.out.mono ?_
 rintro e w1 ⟨p1, c1, rfl, hB, hb1⟩
 have hon := Frm.one_any p1 L.length c1 L w1 (HE.out.below hb1 HE.out.lt) hB (by have := HLE.out; omega)
 unfold Frm.OneP at hon
 rw [HOX.out, HOE.out] at hon
 have HON := Lib.hid hon
 have HB1 := Lib.hid hb1
 clear hB hb1 hon HRD
 go_wp2_with fail
 refine HON.out.mono ?_
 rintro e w2 ⟨p2, c2, rfl, ho2, hb2⟩
 have HB2 := Lib.hid (HB1.out.trans (hb2.mono HB1.out.size))
 have HNW := Lib.hid (Rdr.new_any w2 p2 X.length c2 X (Cut.own_bs ho2) (by have := HX65.out; omega))
 clear ho2 hb2 HON HB1
 generalize (one L).2.1 = N at *
 go_wp2_with fail
 refine HNW.out.mono ?_
 rintro e w3 ⟨rb, rfl, hr3, hb3⟩
 have HB3 := Lib.hid (HB2.out.trans (hb3.mono HB2.out.size))
 have HSZ2 : Hid (w.heap.size ≤ w2.heap.size) := HB2.out.size
 have HR3 := Lib.hid hr3
 have HNM := Lib.hid (Rdr.num_any w3 hr3 8 (by omega))
 clear hr3 hb3 HNW HB2
 go_wp2_with fail
 refine HNM.out.mono ?_
 rintro e w4 ⟨rfl, hl4⟩
 have hb4 := HB3.out.trans (hl4.belowB HR3.out HSZ2.out)
 have HB4 := Lib.hid hb4
 have HR4 := Lib.hid hl4.there
 clear hl4 hb4 HNM HR3 HB3
 by_cases hE0 : E = 0
 ·have he1 : (E != 0) = false := by rw [hE0]; rfl
  have HER := Lib.hid (Rdr.err_any w4 HR4.out (HE.out.below HB4.out HE.out.lt))
  by_cases h8 : 8 ≤ X.length
  ·obtain ⟨q1, q2⟩ := num8_in h8
   rw [q2] at HER HR4
   rw [q1]
   have hlp := HLP.out
   rw [if_pos ⟨hE0, h8⟩] at hlp
   have HL2 := Lib.hid hlp
   have HRS := Lib.hid (rest8 h8)
   clear hE0 q1 q2 HLP hlp h8
   generalize Rdr.beN (X.take 8) = TN at *
   generalize X.drop 8 = RB at *
   go_wp2_with fail
   refine HER.out.mono ?_
   rintro e w5 ⟨rfl, hb5⟩
   have HR5 := Lib.hid (HR4.out.below hb5)
   have HB5 := Lib.hid (HB4.out.trans (hb5.mono HB4.out.size))
   have HLF := Lib.hid (Rdr.left_any w5 HR5.out)
   have hz : ((⟨X, 8, none⟩ : Rdr.RD).err != 0) = false := rfl
   clear hb5 HER HR4 HB4
   go_wp2_with fail
   refine HLF.out.mono ?_
   rintro e w6 ⟨rfl, hb6⟩
   have hby := Rdr.bytes_any w6 (HR5.out.below hb6) ((X.length - 8 : Nat) : Int) (by have := HX65.out; omega)
   unfold Rdr.BytesP at hby
   rw [HRS.out] at hby
   have HBY := Lib.hid hby
   have HR6 := Lib.hid (HR5.out.below hb6)
   have HB6 := Lib.hid (HB5.out.trans (hb6.mono HB5.out.size))
   clear hb6 hby HLF HR5 HB5
   go_wp2_with fail
   refine HBY.out.mono ?_
   rintro e w7 ⟨p7, c7, rfl, ho7, hl7⟩
   have HB7 := Lib.hid (HB6.out.trans (hl7.belowB HR6.out HSZ2.out))
   have HO7 := Lib.hid ho7
   clear ho7 hl7
   go_wp2_with fail
   go_ret2
   refine ⟨p7, c7, by rw [HL2.out]; rfl, ?_, HB7.out⟩
   rw [HL2.out]
   exact own_base HO7.out (fun k hk => Nat.le_trans HB6.out.size (own_ge HO7.out k hk))
  ·have q2 := num8_out h8
   have hlp := HLP.out
   rw [if_neg (fun h => h8 h.2)] at hlp
   have HNO : Hid (∀ w', Below w.heap.size w w' → LoadP L w (.returned (.tuple #[.int .u64 0, .slice none 0 0])) w') := fun w' hb => ⟨none, 0, by rw [hlp]; rfl, by rw [hlp]; exact World.ownsRow_nil _ _ _ _, hb⟩
   rw [q2] at HER
   clear hE0 q2 hlp HLP h8
   generalize (Rdr.RD.new X).numV 8 = TN at *
   go_wp2_with fail
   refine HER.out.mono ?_
   rintro e w5 ⟨rfl, hb5⟩
   have HBX := Lib.hid (HB4.out.trans (hb5.mono HB4.out.size))
   skip
   go_wp2_with fail
   go_ret2
   exact HNO.out _ HBX.out
 ·have he1 : (E != 0) = true := bne_iff_ne.2 hE0
  have hlp := HLP.out
  rw [if_neg (fun h => hE0 h.1)] at hlp
  have HNO : Hid (∀ w', Below w.heap.size w w' → LoadP L w (.returned (.tuple #[.int .u64 0, .slice none 0 0])) w') := fun w' hb => ⟨none, 0, by rw [hlp]; rfl, by rw [hlp]; exact World.ownsRow_nil _ _ _ _, hb⟩
  have HBX := Lib.hid HB4.out
  clear hE0 hlp HLP
  generalize (Rdr.RD.new X).numV 8 = TN at *
  skip
  go_wp2_with fail
  go_ret2
  exact HNO.out _ HBX.out
theorem xroomS {base db : Nat} {d : DD} (w : World) (h : DX base db d w) : Calls Tryz.prog 64 #[.pointer (some ⟨db, 0, none⟩)] w fun e w' => e = .returned (.int .i64 (d.room : Int)) ∧ w = w' := by
 obtain ⟨h0, vs, h1⟩ := h
 exact room_any w h1
theorem xdownS {base db : Nat} {d : DD} (w : World) (h : DX base db d w) : Calls Tryz.prog 19 #[.pointer (some ⟨db, 0, none⟩)] w fun e w' => e = .returned (.bool d.down) ∧ w = w' := by
 obtain ⟨h0, vs, h1⟩ := h
 exact down_any w h1
theorem SX.cells {base sb db a b : Nat} {d : DD} {s : SS} {w : World} (h : SX base sb db a b d s w) : ∃ pb cb bx, Rd w base (.slice pb s.body.length cb) s.body ∧ w.heap[bx]? = some (.cells #[.pointer (some ⟨db, 0, none⟩)] 23 (0, 0)) ∧ w.heap[sb]? = some (.cells (slA db a b s pb cb bx) 133 (0, 0)) := by
 obtain ⟨pb, cb, bx, h1, h2, h3⟩ := h.row
 exact ⟨pb, cb, bx, h2, h3, h1⟩
set_option maxRecDepth 100000 in
theorem none_any {base sb db a b : Nat} {d : DD} {s : SS} (w : World) (h : SX base sb db a b d s w) :
  Calls Tryz.prog 84 #[.pointer (some ⟨sb, 0, none⟩)] w fun e w' => e = .returned (.bool false) ∧ w = w' := by
 obtain ⟨pb, cb, bx, _, _, h1⟩ := h.cells
 obtain ⟨c0, _⟩ := slA_cells h1
 clear h h1
 go_enter Tryz.func84, Tryz.ntmps84
 go_wp2_with fail
 go_ret
 exact ⟨rfl, rfl⟩
def GetP (s : SS) (w : World) (e : Ending) (w' : World) : Prop := ∃ p c, e = .returned (.tuple #[.slice p s.body.length c, .bool (decide (0 < s.turn))]) ∧ w'.ownsRow w.heap.size 5 1 (.slice p s.body.length c) s.body.length (bytesV s.body) ∧ Below w.heap.size w w'
set_option maxRecDepth 100000 in
set_option maxHeartbeats 1600000 in
theorem get_any {base sb db a b : Nat} {d : DD} {s : SS} (w : World) (h : SX base sb db a b d s w) (h0 : s.turn = 0 → s.body = []) (hl : s.body.length ≤ 140737488355328) :
  Calls Tryz.prog 68 #[.pointer (some ⟨sb, 0, none⟩)] w (GetP s w) := by
 have HN := Lib.hid (none_any w h)
 obtain ⟨pb, cb, bx, hrd, _, h1⟩ := h.cells
 obtain ⟨_, _, _, _, c4, c5, _⟩ := slA_cells h1
 obtain ⟨p', c', e1, hbs⟩ := hrd.bs
 cases e1
 by_cases ht : s.turn = 0
 ·have hb0 := h0 ht
  have HG : Hid (GetP s w (.returned (.tuple #[.slice none 0 0, .bool false])) w) := ⟨none, 0, by rw [hb0, ht]; rfl, by rw [hb0]; exact World.ownsRow_nil _ _ _ _, Below.refl _ _⟩
  have hq : ((s.turn : Int) == 0) = true := by rw [ht]; rfl
  clear h h1 hb0 hbs hrd c5 h0 ht
  generalize s.turn = TT at *
  go_enter Tryz.func68, Tryz.ntmps68
  go_wp2_with fail
  refine HN.out.mono ?_
  rintro e w' ⟨rfl, rfl⟩
  go_wp2_with fail
  go_ret2
  exact HG.out
 ·have hq : ((s.turn : Int) == 0) = false := beq_eq_false_iff_ne.2 (by omega)
  have hd : decide (0 < s.turn) = true := decide_eq_true (by omega)
  have HG : Hid (∀ p c w', w'.ownsRow w.heap.size 5 1 (.slice p s.body.length c) s.body.length (bytesV s.body) → Below w.heap.size w w' → GetP s w (.returned (.tuple #[.slice p s.body.length c, .bool true])) w') := fun p c w' ho hb => ⟨p, c, by rw [hd], ho, hb⟩
  clear h h1 hrd h0 ht hd
  generalize s.turn = TT at *
  generalize s.body = B at *
  generalize hm : B.length = m at *
  clear hm
  have hle := hbs.le
  have hmax := hbs.max
  have HBS := Lib.hid hbs
  clear hbs
  go_enter Tryz.func68, Tryz.ntmps68
  go_wp2_with fail
  refine HN.out.mono ?_
  rintro e w' ⟨rfl, rfl⟩
  go_wp2_with (refine wpList_append_nx rfl _ _ 22 rfl (base := w.heap.size) Tryz.underlying22 info8 rfl (by omega) rfl (World.ownsRow_nil _ _ _ _) rfl HBS.out (bytesV_one _) ⟨by omega, by omega⟩ (Nat.le_refl _) ?_)
  intro p9 c9 w9 ho9 hg9 _ _
  have HX := Lib.hid (HG.out p9 c9 w9 (by simpa using ho9) ((Below.refl _ _).grown hg9 (Nat.le_refl _) (fun k hk => by simp [Value.ownBlock] at hk)))
  clear ho9 hg9
  go_wp2_with fail
  go_ret2
  exact HX.out
end Go.Proofs.YtnejjfglkindjaaGreatDoor.Slt
namespace Go.Proofs.YtnejjfglkindjaaGreatDoor.Slt
open Go.RowKit Go.Mir Go.Mir.Parts Dk Rol Wr
open Frm (frame)
set_option maxRecDepth 100000 in
set_option maxHeartbeats 1600000 in
theorem wrap_any (t : Nat) (ht : t < 18446744073709551616) (p : Option Addr) (c : Nat) (x : List UInt8) (w : World) (hB : Bs w p x.length c x) (hx : x.length ≤ 3000) :
  Calls Tryz.prog 85 #[.int .u64 (t : Int), .slice p x.length c] w fun e w' => ∃ p' c', e = .returned (.tuple #[.slice p' (frame (be t 8 ++ x)).length c', .int .i64 0]) ∧ w'.ownsRow w.heap.size 5 1 (.slice p' (frame (be t 8 ++ x)).length c') (frame (be t 8 ++ x)).length (bytesV (frame (be t 8 ++ x))) ∧ Below w.heap.size w w' := by
 have HB := Lib.hid hB
 have HXL := Lib.hid hx
 obtain ⟨E, hE⟩ : ∃ E, be t 8 ++ x = E := ⟨_, rfl⟩
 have HL : Hid (E.length = 8 + x.length) := by show _ = _; rw [← hE, List.length_append, be_length]
 have HFR : Hid (Frm.enc E = (frame E, 0)) := by show _ = _; unfold Frm.enc; rw [if_neg (by rw [HL.out]; omega)]
 have HL4 : Hid (E.length ≤ 4000) := by show _ ≤ _; rw [HL.out]; omega
 rw [hE]
 have HEE := Lib.hid hE
 clear hB hx hE
 go_enter Tryz.func85, Tryz.ntmps85
 go_wp2_with fail
 refine (Cod.ws_new w w (Below.refl _ _) 65536 (by omega)).mono ?_
 rintro e w2 ⟨rfl, hs2, -⟩
 have HS2 := Lib.hid hs2
 clear hs2
 go_wp2_with fail
 refine (Cod.ws_num HS2.out (by omega) t 8 (by omega) (by omega) (by omega) ht).mono ?_
 rintro e w3 ⟨rfl, hs3⟩
 have HS3 := Lib.hid hs3
 clear hs3 HS2
 go_wp2_with fail
 refine (Cod.ws_bytes HS3.out (by omega) p x.length c x HB.out (by have := HXL.out; omega)).mono ?_
 rintro e w4 ⟨rfl, hs4⟩
 rw [List.nil_append, HEE.out] at hs4
 have HS4 := Lib.hid hs4
 clear hs4 HS3 HEE
 go_wp2_with fail
 refine (Cod.ws_done HS4.out (by omega) (by have := HL4.out; omega)).mono ?_
 rintro e w5 ⟨⟨p5, c5, rfl, ho5⟩, hs5, hb5⟩
 have hen := Frm.encode_any p5 E.length c5 E w5 (Cut.own_bs ho5) HL4.out
 rw [HFR.out] at hen
 have HEN := Lib.hid hen
 have HS5 := Lib.hid hs5.low
 clear ho5 hs5 hb5 hen HS4
 go_wp2_with fail
 refine HEN.out.mono ?_
 rintro e w6 ⟨p6, c6, rfl, ho6, hb6⟩
 have HB6 := Lib.hid (HS5.out.trans (hb6.mono HS5.out.size))
 have HO6 := Lib.hid (own_base ho6 (fun k hk => Nat.le_trans HS5.out.size (own_ge ho6 k hk)))
 clear ho6 hb6
 go_wp2_with fail
 go_ret2
 exact ⟨p6, c6, rfl, HO6.out, HB6.out⟩
theorem file_is (z : Int) (w : World) : Calls Tryz.prog 65 #[.int .i64 z] w fun e w' => e = .returned (.bool (decide (0 ≤ z ∧ z < 3))) ∧ w = w' := by
 by_cases h0 : 0 ≤ z
 ·have d0 : decide ((0 : Int) ≤ z) = true := decide_eq_true h0
  by_cases h1 : z < 3
  ·have d1 : decide (z < 3) = true := decide_eq_true h1
   have dq : decide (0 ≤ z ∧ z < 3) = true := decide_eq_true ⟨h0, h1⟩
   rw [dq]
   clear h0 h1 dq
   go_enter Tryz.func65, Tryz.ntmps65
   go_wp2_with fail
   go_ret
   exact ⟨rfl, rfl⟩
  ·have d1 : decide (z < 3) = false := decide_eq_false h1
   have dq : decide (0 ≤ z ∧ z < 3) = false := decide_eq_false (fun h => h1 h.2)
   rw [dq]
   clear h0 h1 dq
   go_enter Tryz.func65, Tryz.ntmps65
   go_wp2_with fail
   go_ret
   exact ⟨rfl, rfl⟩
 ·have d0 : decide ((0 : Int) ≤ z) = false := decide_eq_false h0
  have dq : decide (0 ≤ z ∧ z < 3) = false := decide_eq_false (fun h => h0 h.1)
  rw [dq]
  clear h0 dq
  go_enter Tryz.func65, Tryz.ntmps65
  go_wp2_with fail
  go_ret
  exact ⟨rfl, rfl⟩
theorem file_ok (a : Nat) (h : a < 3) (w : World) : Calls Tryz.prog 65 #[.int .i64 (a : Int)] w fun e w' => e = .returned (.bool true) ∧ w = w' := by
 have := file_is (a : Int) w
 rwa [decide_eq_true (show 0 ≤ (a : Int) ∧ (a : Int) < 3 by omega)] at this
theorem built_two (a b : Nat) : Tryz.prog.built 129 [(0, .int .i64 (a : Int)), (1, .int .i64 (b : Int))] = some #[.int .i64 (a : Int), .int .i64 (b : Int)] := by kernel_rfl
theorem built_slots (db a b bx : Nat) : Tryz.prog.built 133 [(0, .pointer (some ⟨db, 0, none⟩)), (1, .agg #[.int .i64 (a : Int), .int .i64 (b : Int)]), (2, .int .i64 (-1)), (5, .func (.func 105) #[] #[.pointer (some ⟨bx, 0, none⟩)])] = some (slA db a b ⟨-1, 0, []⟩ none 0 bx) := by kernel_rfl
theorem info2 (n : Nat) (h : n = 2) : (Tryz.prog.info? 129).map (·.size) = some n := by subst h; kernel_rfl
theorem slA_files {w : World} {sb db a b : Nat} {s : SS} {pb : Option Addr} {cb bx : Nat} {t : TypeId} {fr : Nat × Nat} (h : w.heap[sb]? = some (.cells (slA db a b s pb cb bx) t fr)) : w.rangeAt sb 1 [.int .i64 (a : Int), .int .i64 (b : Int)] := by
 obtain ⟨_, c1, c2, _⟩ := slA_cells h
 intro j v hv
 match j, hv with
 | 0, hv => cases hv; exact c1
 | 1, hv => cases hv; exact c2
def opK (d : DD) (a b k : Nat) : SS := if k = 0 then ⟨-1, 0, []⟩ else if k = 1 then bet ⟨-1, 0, []⟩ a (fD d a).now else opnS d a b
theorem bet_body {s : SS} {f : Nat} {l : List UInt8} (h : s.turn = 0 → s.body = []) : (bet s f l).turn = 0 → (bet s f l).body = [] := by
 unfold bet
 split
 ·rename_i hh
  intro h0
  have h0 : (loadP l).1 = 0 := h0
  omega
 ·exact h
theorem opn_body (d : DD) (a b : Nat) : (opnS d a b).turn = 0 → (opnS d a b).body = [] := bet_body (bet_body (fun _ => rfl))
def OpenP (base db a b : Nat) (d : DD) (w : World) (e : Ending) (w' : World) : Prop := ∃ sb, e = .returned (.tuple #[.pointer (some ⟨sb, 0, none⟩), .int .i64 0]) ∧ SX base sb db a b d (opnS d a b) w' ∧ Below w.heap.size w w'
set_option maxRecDepth 100000 in
set_option maxHeartbeats 3200000 in
theorem sopen_any {base db : Nat} {d : DD} (w : World) (hE : Rdr.EType w) (hX : DX base db d w) (a b : Nat) (ha : a < 3) (hb : b < 3) (hne : a ≠ b) (hdn : d.down = false) :
  Calls Tryz.prog 33 #[.pointer (some ⟨db, 0, none⟩), .int .i64 (a : Int), .int .i64 (b : Int)] w (OpenP base db a b d w) := by
 have HRM := Lib.hid (xroomS w hX)
 have HDN := Lib.hid (xdownS w hX)
 rw [hdn] at HDN
 have hr := hX.room.1
 have e1 : ((d.room : Int) == 0) = false := by rw [beq_eq_false_iff_ne]; omega
 have e2 : (d.room == 0) = false := by rw [beq_eq_false_iff_ne]; omega
 have e3 : ((a : Int) == (b : Int)) = false := by rw [beq_eq_false_iff_ne]; omega
 have e4 : (a == b) = false := by rw [beq_eq_false_iff_ne]; omega
 have HFA := Lib.hid ha
 have HFB := Lib.hid hb
 have HE := Lib.hid hE
 have HX := Lib.hid hX
 clear hE hX ha hb hne hdn hr
 go_enter Tryz.func33, Tryz.ntmps33
 go_wp2_with fail
 refine HRM.out.mono ?_
 rintro e w' ⟨rfl, rfl⟩
 go_wp2_with fail
 refine (file_ok a HFA.out w).mono ?_
 rintro e w' ⟨rfl, rfl⟩
 go_wp2_with fail
 refine (file_ok b HFB.out w).mono ?_
 rintro e w' ⟨rfl, rfl⟩
 go_wp2_with fail
 refine HDN.out.mono ?_
 rintro e w' ⟨rfl, rfl⟩
 clear HRM HDN
 go_wp2_with (refine Rdr.wpList_build rfl 129 _ rfl [(0, .int .i64 (a : Int)), (1, .int .i64 (b : Int))] rfl _ (built_two a b) ?_)
 refine (load_fn db w).mono ?_
 rintro e w1 ⟨rfl, rfl⟩
 go_upto_region 8 with (refine Rdr.wpList_build rfl 133 _ rfl [(0, .pointer (some ⟨db, 0, none⟩)), (1, .agg #[.int .i64 (a : Int), .int .i64 (b : Int)]), (2, .int .i64 (-1)), (5, .func (.func 105) #[] #[.pointer (some ⟨w.heap.size, 0, none⟩)])] rfl _ (built_slots db a b w.heap.size) ?_)
 obtain ⟨q1, q2, q3, q4⟩ := two_allocs w (.cells #[.pointer (some ⟨db, 0, none⟩)] 23) (.cells (slA db a b ⟨-1, 0, []⟩ none 0 w.heap.size) 133)
 have HS0 : Hid (SX base (w.heap.size + 1) db a b d ⟨-1, 0, []⟩ ((w.alloc (.cells #[.pointer (some ⟨db, 0, none⟩)] 23)).alloc (.cells (slA db a b ⟨-1, 0, []⟩ none 0 w.heap.size) 133))) :=
  ⟨HX.out.below q4, Nat.le_trans HX.out.1 (Nat.le_succ _), ⟨none, 0, w.heap.size, q2, Rd.of_own (World.ownsRow_nil _ _ _ _), q1⟩, by show 0 < _; omega, by show -1 ≤ (-1 : Int) ∧ (-1 : Int) ≤ 2; omega⟩
 have HB0 := Lib.hid q4
 have HRG := Lib.hid (slA_files q2)
 have HBS : Hid (base ≤ w.heap.size) := HX.out.1
 clear q1 q2 q3 q4 HX
 generalize (w.alloc (.cells #[.pointer (some ⟨db, 0, none⟩)] 23)).alloc (.cells (slA db a b ⟨-1, 0, []⟩ none 0 w.heap.size) 133) = w2 at *
 have HSB : Hid (w.heap.size ≤ w.heap.size + 1) := Nat.le_succ _
 generalize w.heap.size + 1 = sb at *
 go_wp2_with (refine wpList_load_mid rfl 129 _ rfl sb 1 rfl [.int .i64 (a : Int), .int .i64 (b : Int)] _ HRG.out Tryz.underlying129 rfl (info2 _ rfl) ?_)
 go_loopw [10, 11, 12, 46] (fun fv tv bv j wr => ∃ k : Nat, k ≤ 2 ∧ j = .int .i64 k ∧ SX base sb db a b d (opK d a b k) wr ∧ Below w.heap.size w wr) (fun _ _ _ j _ => 2 - (intOf j).toNat)
 case atStart => exact ⟨0, by omega, rfl, HS0.out, HB0.out⟩
 case round =>
  obtain ⟨k, hk, rfl, hs, hbw⟩ := hrel
  have HS := Lib.hid hs
  have HBW := Lib.hid hbw
  clear hs hbw
  by_cases k0 : k = 0
  ·subst k0
   have hd : decide (((0 : Nat) : Int) < (2 : Int)) = true := by decide
   have hix : ∀ w', (Instr.index 129 (.agg #[.int .i64 (a : Int), .int .i64 (b : Int)]) (.int .i64 0)).run Tryz.prog w' = .ok (.int .i64 (a : Int)) w' := fun w' => rfl
   have HFF := HFA.out
   obtain ⟨S0, hS0⟩ : ∃ S0, opK d a b 0 = S0 := ⟨_, rfl⟩
   have HOK : Hid (opK d a b 1 = bet S0 a (fD d a).now) := by show _ = _; rw [← hS0]; rfl
   rw [hS0] at HS
   clear hS0
   skip
   have hbx5 := HS.out.cells
   obtain ⟨pb, cb, bx, _, hbx, hrow⟩ := hbx5
   obtain ⟨_, _, _, _, _, _, c6⟩ := slA_cells hrow
   have HLD := Lib.hid (load_any (i := a) HFF wr (HE.out.below HBW.out HE.out.lt) HS.out.dx hbx)
   clear hbx hrow
   go_wp2_with fail
   refine HLD.out.mono ?_
   rintro e w5 ⟨p5, c5, rfl, ho5, hb5⟩
   have hs5 := HS.out.below hb5
   obtain ⟨pb5, cb5, bx5, _, _, hrow5⟩ := hs5.cells
   obtain ⟨_, _, _, _, c4, _⟩ := slA_cells hrow5
   have hfz : ∀ j, w5.frozen? ⟨sb, j, none⟩ = false := fun j => frozen_of_row _ _ _ _ _ hrow5
   have HS5 := Lib.hid hs5
   have HB5 := Lib.hid (HBW.out.trans (hb5.mono HBW.out.size))
   have HLT := Lib.hid (load_lt (fD d a).now)
   have HRD : Hid (Rd w5 base (.slice p5 (loadP (fD d a).now).2.length c5) (loadP (fD d a).now).2) := (Rd.of_own ho5).base (Nat.le_trans HBS.out HBW.out.size)
   clear hs5 hrow5 ho5 hb5 c6 HLD HS HBW
   by_cases hgt : S0.turn < (loadP (fD d a).now).1
   ·have d1 : decide ((S0.turn : Int) < ((loadP (fD d a).now).1 : Int)) = true := decide_eq_true (by omega)
    have d2 : decide (S0.turn < (loadP (fD d a).now).1) = true := decide_eq_true hgt
    have HNX : Hid (opK d a b 1 = ⟨(a : Int), (loadP (fD d a).now).1, (loadP (fD d a).now).2⟩) := by show _ = _; rw [HOK.out]; exact if_pos hgt
    clear hgt
    generalize loadP (fD d a).now = LP at *
    obtain ⟨LT, LB⟩ := LP
    have d3 : decide ((S0.turn : Int) < (LT : Int)) = true := d1
    have d4 : decide (S0.turn < LT) = true := d2
    clear d1 d2
    have hst := HS5.out.set3 (a : Int) (by omega) LT HLT.out p5 c5 LB HRD.out
    have HST := Lib.hid hst
    have HB6 := Lib.hid (HB5.out.trans (hst.2.2.below HB5.out.size (fun i hi => by have hi : i = sb := hi; have := HSB.out; omega)))
    clear hst
    go_wp2_with fail
    go_roundw
    case rel => exact ⟨1, by omega, by go_num, by rw [HNX.out]; exact HST.out.1, HB6.out⟩
    case measure => simp [intOf]
   ·have d1 : decide ((S0.turn : Int) < ((loadP (fD d a).now).1 : Int)) = false := decide_eq_false (by omega)
    have d2 : decide (S0.turn < (loadP (fD d a).now).1) = false := decide_eq_false hgt
    have HNX : Hid (opK d a b 1 = S0) := by show _ = _; rw [HOK.out]; exact if_neg hgt
    clear hgt
    generalize loadP (fD d a).now = LP at *
    go_wp2_with fail
    go_roundw
    case rel => exact ⟨1, by omega, by go_num, by rw [HNX.out]; exact HS5.out, HB5.out⟩
    case measure => simp [intOf]
  ·by_cases k1 : k = 1
   ·subst k1
    have hd : decide (((1 : Nat) : Int) < (2 : Int)) = true := by decide
    have hix : ∀ w', (Instr.index 129 (.agg #[.int .i64 (a : Int), .int .i64 (b : Int)]) (.int .i64 1)).run Tryz.prog w' = .ok (.int .i64 (b : Int)) w' := fun w' => rfl
    have HFF := HFB.out
    obtain ⟨S0, hS0⟩ : ∃ S0, opK d a b 1 = S0 := ⟨_, rfl⟩
    have HOK : Hid (opK d a b 2 = bet S0 b (fD d b).now) := by show _ = _; rw [← hS0]; rfl
    rw [hS0] at HS
    clear hS0 k0
    skip
    have hbx5 := HS.out.cells
    obtain ⟨pb, cb, bx, _, hbx, hrow⟩ := hbx5
    obtain ⟨_, _, _, _, _, _, c6⟩ := slA_cells hrow
    have HLD := Lib.hid (load_any (i := b) HFF wr (HE.out.below HBW.out HE.out.lt) HS.out.dx hbx)
    clear hbx hrow
    go_wp2_with fail
    refine HLD.out.mono ?_
    rintro e w5 ⟨p5, c5, rfl, ho5, hb5⟩
    have hs5 := HS.out.below hb5
    obtain ⟨pb5, cb5, bx5, _, _, hrow5⟩ := hs5.cells
    obtain ⟨_, _, _, _, c4, _⟩ := slA_cells hrow5
    have hfz : ∀ j, w5.frozen? ⟨sb, j, none⟩ = false := fun j => frozen_of_row _ _ _ _ _ hrow5
    have HS5 := Lib.hid hs5
    have HB5 := Lib.hid (HBW.out.trans (hb5.mono HBW.out.size))
    have HLT := Lib.hid (load_lt (fD d b).now)
    have HRD : Hid (Rd w5 base (.slice p5 (loadP (fD d b).now).2.length c5) (loadP (fD d b).now).2) := (Rd.of_own ho5).base (Nat.le_trans HBS.out HBW.out.size)
    clear hs5 hrow5 ho5 hb5 c6 HLD HS HBW
    by_cases hgt : S0.turn < (loadP (fD d b).now).1
    ·have d1 : decide ((S0.turn : Int) < ((loadP (fD d b).now).1 : Int)) = true := decide_eq_true (by omega)
     have d2 : decide (S0.turn < (loadP (fD d b).now).1) = true := decide_eq_true hgt
     have HNX : Hid (opK d a b 2 = ⟨(b : Int), (loadP (fD d b).now).1, (loadP (fD d b).now).2⟩) := by show _ = _; rw [HOK.out]; exact if_pos hgt
     clear hgt
     generalize loadP (fD d b).now = LP at *
     obtain ⟨LT, LB⟩ := LP
     have d3 : decide ((S0.turn : Int) < (LT : Int)) = true := d1
     have d4 : decide (S0.turn < LT) = true := d2
     clear d1 d2
     have hst := HS5.out.set3 (b : Int) (by omega) LT HLT.out p5 c5 LB HRD.out
     have HST := Lib.hid hst
     have HB6 := Lib.hid (HB5.out.trans (hst.2.2.below HB5.out.size (fun i hi => by have hi : i = sb := hi; have := HSB.out; omega)))
     clear hst
     go_wp2_with fail
     go_roundw
     case rel => exact ⟨2, by omega, by go_num, by rw [HNX.out]; exact HST.out.1, HB6.out⟩
     case measure => simp [intOf]
    ·have d1 : decide ((S0.turn : Int) < ((loadP (fD d b).now).1 : Int)) = false := decide_eq_false (by omega)
     have d2 : decide (S0.turn < (loadP (fD d b).now).1) = false := decide_eq_false hgt
     have HNX : Hid (opK d a b 2 = S0) := by show _ = _; rw [HOK.out]; exact if_neg hgt
     clear hgt
     generalize loadP (fD d b).now = LP at *
     go_wp2_with fail
     go_roundw
     case rel => exact ⟨2, by omega, by go_num, by rw [HNX.out]; exact HS5.out, HB5.out⟩
     case measure => simp [intOf]
   ·obtain rfl : k = 2 := by omega
    have hd : decide (((2 : Nat) : Int) < (2 : Int)) = false := by decide
    have HSE : Hid (SX base sb db a b d (opnS d a b) wr) := HS.out
    clear k0 k1
    go_wp2_with fail
    go_ret2
    exact ⟨sb, rfl, HSE.out, HBW.out⟩
end Go.Proofs.YtnejjfglkindjaaGreatDoor.Slt
namespace Go.Proofs.YtnejjfglkindjaaGreatDoor.Vlt
open Go.RowKit Go.Mir Go.Mir.Parts Dk Rol Wr Slt
def OddAt (w : World) (ob : Nat) : Prop := w.heap[ob]? = some (.cells #[.iface 25 (.int .i64 4)] 140 (0, 0))
def SplP (b : List UInt8) (least : Nat) (w : World) (e : Ending) (w' : World) : Prop := Below w.heap.size w w' ∧
 ((8 + least ≤ b.length ∧ ∃ p c, e = .returned (.tuple #[.int .u64 (Rdr.beN (b.take 8) : Int), .slice p (b.drop 8).length c, .nilIface]) ∧ w'.ownsRow w.heap.size 5 1 (.slice p (b.drop 8).length c) (b.drop 8).length (bytesV (b.drop 8))) ∨
  (¬ 8 + least ≤ b.length ∧ ∃ ob, e = .returned (.tuple #[.int .u64 0, .slice none 0 0, .iface 94 (.pointer (some ⟨ob, 0, none⟩))]) ∧ w.heap.size ≤ ob ∧ OddAt w' ob))
theorem built_odd : Tryz.prog.built 140 [(0, .iface 25 (.int .i64 4))] = some #[.iface 25 (.int .i64 4)] := by kernel_rfl
set_option maxRecDepth 100000 in
set_option maxHeartbeats 1600000 in
theorem split_any (p : Option Addr) (c : Nat) (X : List UInt8) (least : Nat) (hle : least ≤ 1) (w : World) (hE : Rdr.EType w) (hB : Bs w p X.length c X) (hx : X.length ≤ 140737488355328) :
  Calls Tryz.prog 69 #[.slice p X.length c, .int .i64 (least : Int)] w (SplP X least w) := by
 have HE := Lib.hid hE
 have HX65 := Lib.hid hx
 have HNW := Lib.hid (Rdr.new_any w p X.length c X hB hx)
 clear hE hB hx
 go_enter Tryz.func69, Tryz.ntmps69
 go_wp2_with fail
 refine HNW.out.mono ?_
 rintro e w3 ⟨rb, rfl, hr3, hb3⟩
 have HB3 := Lib.hid hb3
 have HR3 := Lib.hid hr3
 have HNM := Lib.hid (Rdr.num_any w3 hr3 8 (by omega))
 clear hr3 hb3 HNW
 go_wp2_with fail
 refine HNM.out.mono ?_
 rintro e w4 ⟨rfl, hl4⟩
 have hb4 := HB3.out.trans (hl4.belowB HR3.out (Nat.le_refl _))
 have HB4 := Lib.hid hb4
 have HR4 := Lib.hid hl4.there
 clear hl4 hb4 HNM HR3 HB3
 have HER := Lib.hid (Rdr.err_any w4 HR4.out (HE.out.below HB4.out HE.out.lt))
 by_cases h8 : 8 ≤ X.length
 ·obtain ⟨q1, q2⟩ := num8_in h8
  rw [q2] at HER HR4
  rw [q1]
  have HRS := Lib.hid (rest8 h8)
  have HDL : Hid ((X.drop 8).length = X.length - 8) := List.length_drop
  have hz : ((⟨X, 8, none⟩ : Rdr.RD).err != 0) = false := rfl
  clear q1 q2
  by_cases hl : 8 + least ≤ X.length
  ·have hd1 : decide (((X.length - 8 : Nat) : Int) < (least : Int)) = false := decide_eq_false (by omega)
   have hd2 : decide (X.length - 8 < least) = false := decide_eq_false (by omega)
   have HYS : Hid (∀ p c w', w'.ownsRow w.heap.size 5 1 (.slice p (X.drop 8).length c) (X.drop 8).length (bytesV (X.drop 8)) → Below w.heap.size w w' → SplP X least w (.returned (.tuple #[.int .u64 (Rdr.beN (X.take 8) : Int), .slice p (X.drop 8).length c, .nilIface])) w') := fun p c w' ho hb => ⟨hb, .inl ⟨hl, p, c, rfl, ho⟩⟩
   clear h8 hl hle
   generalize Rdr.beN (X.take 8) = TN at *
   generalize X.drop 8 = RB at *
   go_wp2_with fail
   refine HER.out.mono ?_
   rintro e w5 ⟨rfl, hb5⟩
   have HR5 := Lib.hid (HR4.out.below hb5)
   have HB5 := Lib.hid (HB4.out.trans (hb5.mono HB4.out.size))
   have HLF := Lib.hid (Rdr.left_any w5 HR5.out)
   clear hb5 HER HR4 HB4
   go_wp2_with fail
   refine HLF.out.mono ?_
   rintro e w6 ⟨rfl, hb6⟩
   have HR6 := Lib.hid (HR5.out.below hb6)
   have HB6 := Lib.hid (HB5.out.trans (hb6.mono HB5.out.size))
   have HLF := Lib.hid (Rdr.left_any w6 HR6.out)
   clear hb6 HR5 HB5
   go_wp2_with fail
   refine HLF.out.mono ?_
   rintro e w7 ⟨rfl, hb7⟩
   have hby := Rdr.bytes_any w7 (HR6.out.below hb7) ((X.length - 8 : Nat) : Int) (by have := HX65.out; omega)
   unfold Rdr.BytesP at hby
   rw [HRS.out] at hby
   have HBY := Lib.hid hby
   have HR7 := Lib.hid (HR6.out.below hb7)
   have HB7 := Lib.hid (HB6.out.trans (hb7.mono HB6.out.size))
   clear hb7 hby HLF HR6 HB6
   go_wp2_with fail
   refine HBY.out.mono ?_
   rintro e w8 ⟨p7, c7, rfl, ho7, hl7⟩
   have HB8 := Lib.hid (HB7.out.trans (hl7.belowB HR7.out (Nat.le_refl _)))
   have HO8 := Lib.hid (own_base ho7 (fun k hk => Nat.le_trans HB7.out.size (own_ge ho7 k hk)))
   clear ho7 hl7
   go_wp2_with fail
   refine bodyPost_ret (Frm.results_tmp3 rfl _ _) rfl ?_
   exact HYS.out p7 c7 _ HO8.out HB8.out
  ·have hd1 : decide (((X.length - 8 : Nat) : Int) < (least : Int)) = true := decide_eq_true (by omega)
   have hd2 : decide (X.length - 8 < least) = true := decide_eq_true (by omega)
   have HNE : Hid (¬ 8 + least ≤ X.length) := hl
   clear h8 hl hle
   generalize Rdr.beN (X.take 8) = TN at *
   go_wp2_with fail
   refine HER.out.mono ?_
   rintro e w5 ⟨rfl, hb5⟩
   have HR5 := Lib.hid (HR4.out.below hb5)
   have HB5 := Lib.hid (HB4.out.trans (hb5.mono HB4.out.size))
   have HLF := Lib.hid (Rdr.left_any w5 HR5.out)
   clear hb5 HER HR4 HB4
   go_wp2_with fail
   refine HLF.out.mono ?_
   rintro e w6 ⟨rfl, hb6⟩
   have HBX := Lib.hid (HB5.out.trans (hb6.mono HB5.out.size))
   clear hb6 HLF
   skip
   have hBU := built_odd
   have HOB := Lib.hid (heap_alloc_last w6 (.cells #[.iface 25 (.int .i64 4)] 140))
   have HBY := Lib.hid (HBX.out.trans ((Below.allocs w6 (.cells #[.iface 25 (.int .i64 4)] 140)).mono HBX.out.size))
   have HSX := Lib.hid HBX.out.size
   go_wp2_with (refine Rdr.wpList_build rfl 140 _ rfl [(0, .iface 25 (.int .i64 4))] rfl _ hBU ?_)
   refine bodyPost_ret (Frm.results_tmp3 rfl _ _) rfl ?_
   exact ⟨HBY.out, .inr ⟨HNE.out, _, rfl, HSX.out, HOB.out⟩⟩
 ·have q2 := num8_out h8
  have HNE : Hid (¬ 8 + least ≤ X.length) := by show ¬ _; omega
  rw [q2] at HER
  clear q2 h8 hle
  generalize (Rdr.RD.new X).numV 8 = TN at *
  go_wp2_with fail
  refine HER.out.mono ?_
  rintro e w5 ⟨rfl, hb5⟩
  have HBX := Lib.hid (HB4.out.trans (hb5.mono HB4.out.size))
  clear hb5 HER
  skip
  have hBU := built_odd
  have HOB := Lib.hid (heap_alloc_last w5 (.cells #[.iface 25 (.int .i64 4)] 140))
  have HBY := Lib.hid (HBX.out.trans ((Below.allocs w5 (.cells #[.iface 25 (.int .i64 4)] 140)).mono HBX.out.size))
  have HSX := Lib.hid HBX.out.size
  go_wp2_with (refine Rdr.wpList_build rfl 140 _ rfl [(0, .iface 25 (.int .i64 4))] rfl _ hBU ?_)
  refine bodyPost_ret (Frm.results_tmp3 rfl _ _) rfl ?_
  exact ⟨HBY.out, .inr ⟨HNE.out, _, rfl, HSX.out, HOB.out⟩⟩
set_option maxRecDepth 100000 in
set_option maxHeartbeats 1600000 in
theorem join_any (t : Nat) (ht : t < 18446744073709551616) (p : Option Addr) (c : Nat) (x : List UInt8) (w : World) (hB : Bs w p x.length c x) (hx : x.length ≤ 900000) :
  Calls Tryz.prog 41 #[.int .u64 (t : Int), .slice p x.length c] w fun e w' => ∃ p' c', e = .returned (.slice p' (be t 8 ++ x).length c') ∧ w'.ownsRow w.heap.size 5 1 (.slice p' (be t 8 ++ x).length c') (be t 8 ++ x).length (bytesV (be t 8 ++ x)) ∧ Below w.heap.size w w' := by
 have HB := Lib.hid hB
 have HXL := Lib.hid hx
 obtain ⟨E, hE⟩ : ∃ E, be t 8 ++ x = E := ⟨_, rfl⟩
 have HL : Hid (E.length = 8 + x.length) := by show _ = _; rw [← hE, List.length_append, be_length]
 rw [hE]
 have HEE := Lib.hid hE
 have HWN := Lib.hid (Cod.ws_new w w (Below.refl _ _) (8 + x.length) (by omega))
 have hcs : ((8 + x.length : Nat) : Int) = (8 : Int) + (x.length : Int) := by omega
 rw [hcs] at HWN
 clear hB hE hcs
 go_enter Tryz.func41, Tryz.ntmps41
 go_wp2_with fail
 refine HWN.out.mono ?_
 rintro e w2 ⟨rfl, hs2, -⟩
 have HS2 := Lib.hid hs2
 clear hs2
 go_wp2_with fail
 refine (Cod.ws_num HS2.out (by have := HXL.out; omega) t 8 (by omega) (by omega) (by omega) ht).mono ?_
 rintro e w3 ⟨rfl, hs3⟩
 have HS3 := Lib.hid hs3
 clear hs3 HS2
 go_wp2_with fail
 refine (Cod.ws_bytes HS3.out (by have := HXL.out; omega) p x.length c x HB.out (by have := HXL.out; omega)).mono ?_
 rintro e w4 ⟨rfl, hs4⟩
 rw [List.nil_append, HEE.out] at hs4
 have HS4 := Lib.hid hs4
 clear hs4 HS3 HEE
 go_wp2_with fail
 refine (Cod.ws_done HS4.out (by have := HXL.out; omega) (by have := HL.out; omega)).mono ?_
 rintro e w5 ⟨⟨p5, c5, rfl, ho5⟩, hs5, hb5⟩
 have HS5 := Lib.hid hs5.low
 have HS4L := Lib.hid HS4.out.low
 have HO5 := Lib.hid (own_base ho5 (fun k hk => Nat.le_trans HS4L.out.size (own_ge ho5 k hk)))
 clear ho5 hs5 hb5 HS4
 go_wp2_with fail
 go_ret
 exact ⟨p5, c5, rfl, HO5.out, HS5.out⟩
end Go.Proofs.YtnejjfglkindjaaGreatDoor.Vlt
namespace Go.Proofs.YtnejjfglkindjaaGreatDoor.Slt
open Go.RowKit Go.Mir Go.Mir.Parts Dk Rol
structure Env (base sb db bs bf bb f : Nat) (y : List UInt8) (w : World) : Prop where
 hs : w.heap[bs]? = some (.cells #[.pointer (some ⟨sb, 0, none⟩)] 29 (0, 0))
 hf : w.heap[bf]? = some (.cells #[.int .i64 (f : Int)] 3 (0, 0))
 hb : ∃ p c, w.heap[bb]? = some (.cells #[.slice p y.length c] 22 (0, 0)) ∧ Rd w base (.slice p y.length c) y
 hd : ∃ M, w.heap[sb]? = some (.cells M 133 (0, 0)) ∧ M[0]? = some (.pointer (some ⟨db, 0, none⟩))
theorem Env.kt {base sb db bs bf bb f : Nat} {y : List UInt8} {w w' : World} (h : Env base sb db bs bf bb f y w) (hk : KT base w w') : Env base sb db bs bf bb f y w' := by
 obtain ⟨p, c, h1, h2⟩ := h.hb
 obtain ⟨M, h3, h4⟩ := h.hd
 exact ⟨hk.row h.hs (by decide) (by decide), hk.row h.hf (by decide) (by decide), ⟨p, c, hk.row h1 (by decide) (by decide), h2.touch hk kt_no8⟩, ⟨M, hk.row h3 (by decide) (by decide), h4⟩⟩
theorem Env.cells {base sb db bs bf bb f : Nat} {y : List UInt8} {w : World} (h : Env base sb db bs bf bb f y w) : w.cell? ⟨bs, 0, none⟩ = some (.pointer (some ⟨sb, 0, none⟩)) ∧ w.cell? ⟨bf, 0, none⟩ = some (.int .i64 (f : Int)) ∧ w.cell? ⟨sb, 0, none⟩ = some (.pointer (some ⟨db, 0, none⟩)) := by
 obtain ⟨M, h3, h4⟩ := h.hd
 refine ⟨by rw [cell_of_row _ _ _ _ _ _ h.hs]; rfl, by rw [cell_of_row _ _ _ _ _ _ h.hf]; rfl, by rw [cell_of_row _ _ _ _ _ _ h3]; exact h4⟩
set_option maxRecDepth 100000 in
set_option maxHeartbeats 1600000 in
theorem cut_clo {base sb db bs bf bb f : Nat} {d : DD} {y0 : List UInt8} (w : World) (hf : f < 3) (h : Env base sb db bs bf bb f y0 w) (hX : DX base db d w) (hfew : (fD d f).steps.length + 1 ≤ 4398046511104) :
  Calls Tryz.prog 86 #[.pointer (some ⟨bs, 0, none⟩), .pointer (some ⟨bf, 0, none⟩)] w (StP base db (stpE d f .cut) (stpD d f .cut) w) := by
 have HEV := Lib.hid h
 have HC : Hid (∀ y, Below w.heap.size w y → Calls Tryz.prog 87 #[.pointer (some ⟨db, 0, none⟩), .int .i64 (f : Int), .int .i64 0] y (StP base db (stpE d f .cut) (stpD d f .cut) y)) := fun y hy => xcut y (hX.below hy) f hf 0 (Nat.zero_le _) hfew
 have HC0 : Hid (∀ w', KT base w w' → w'.cell? ⟨bs, 0, none⟩ = some (.pointer (some ⟨sb, 0, none⟩))) := fun w' hk => (HEV.out.kt hk).cells.1
 have HC1 : Hid (∀ w', KT base w w' → w'.cell? ⟨bf, 0, none⟩ = some (.int .i64 (f : Int))) := fun w' hk => (HEV.out.kt hk).cells.2.1
 have HC2 : Hid (∀ w', KT base w w' → w'.cell? ⟨sb, 0, none⟩ = some (.pointer (some ⟨db, 0, none⟩))) := fun w' hk => (HEV.out.kt hk).cells.2.2
 clear h hX hfew
 generalize stpE d f .cut = EV at *
 generalize stpD d f .cut = DV at *
 go_enter Tryz.func86, Tryz.ntmps86
 go_upto_region 1 with fail
 refine wp_region_eager_in (KT base w) [(0, true), (1, true), (2, true), (3, true), (4, true), (5, false), (6, true)] (by kernel_rfl) (by kernel_rfl) ?_ (eagerOpen rfl ?_)
 ·exact KT.of_below (below_drew1 _ _)
 have hy0 : Below w.heap.size w w.drew := below_drew1 _ _
 repeat (first
  | ((first | (apply wpEager_take; (· rfl); (· (intro w' hb'; go_simp; try with_reducible rfl))) | refine wpEager_skip (by rfl) ?_ | refine wpEager_off (by rfl) ?_); (try simp only [Act.put, zA, zB, zC]); (try refine eagerOpen rfl ?_))
  | (apply wpEager_take; (· rfl); (· (intro w' hb'; have hk' := (fun w' hk => HC0.out w' hk) w' hb'; go_split_ands; go_simp; try with_reducible rfl)); (try simp only [Act.put, zA, zB, zC]); (try refine eagerOpen rfl ?_))
  | (apply wpEager_take; (· rfl); (· (intro w' hb'; have hk' := (fun w' hk => HC1.out w' hk) w' hb'; go_split_ands; go_simp; try with_reducible rfl)); (try simp only [Act.put, zA, zB, zC]); (try refine eagerOpen rfl ?_))
  | (apply wpEager_take; (· rfl); (· (intro w' hb'; have hk' := (fun w' hk => HC2.out w' hk) w' hb'; go_split_ands; go_simp; try with_reducible rfl)); (try simp only [Act.put, zA, zB, zC]); (try refine eagerOpen rfl ?_)))
 skip
 (refine wpEager_op (by rfl) (fun K hK => ?_); go_simp; (refine (HC.out _ hy0).mono ?_; rintro e y ⟨rfl, hdx, hkt⟩; have hyk := (KT.of_below hy0).trans hkt); refine Shut.out hK _ _ (by assumption) ?_; clear hK K; (try simp only [Act.put, zA, zB, zC]); (try refine eagerOpen rfl ?_))
 repeat (first
  | ((first | (apply wpEager_take; (· rfl); (· (intro w' hb'; go_simp; try with_reducible rfl))) | refine wpEager_skip (by rfl) ?_ | refine wpEager_off (by rfl) ?_); (try simp only [Act.put, zA, zB, zC]); (try refine eagerOpen rfl ?_)))
 refine eagerEnd ?_
 have HDX := Lib.hid hdx
 have HKT := Lib.hid hyk
 clear hdx hkt hyk hy0 HC0 HC1 HC2 HC
 go_wp2_with fail
 go_ret
 exact ⟨rfl, HDX.out, HKT.out⟩
set_option maxRecDepth 100000 in
set_option maxHeartbeats 1600000 in
theorem sync_clo {base sb db bs bf bb f : Nat} {d : DD} {y0 : List UInt8} (w : World) (hf : f < 3) (h : Env base sb db bs bf bb f y0 w) (hX : DX base db d w) :
  Calls Tryz.prog 88 #[.pointer (some ⟨bs, 0, none⟩), .pointer (some ⟨bf, 0, none⟩)] w (StP base db (stpE d f .sync) (stpD d f .sync) w) := by
 have HEV := Lib.hid h
 have HC : Hid (∀ y, Below w.heap.size w y → Calls Tryz.prog 79 #[.pointer (some ⟨db, 0, none⟩), .int .i64 (f : Int)] y (StP base db (stpE d f .sync) (stpD d f .sync) y)) := fun y hy => xsync y (hX.below hy) f hf
 have HC0 : Hid (∀ w', KT base w w' → w'.cell? ⟨bs, 0, none⟩ = some (.pointer (some ⟨sb, 0, none⟩))) := fun w' hk => (HEV.out.kt hk).cells.1
 have HC1 : Hid (∀ w', KT base w w' → w'.cell? ⟨bf, 0, none⟩ = some (.int .i64 (f : Int))) := fun w' hk => (HEV.out.kt hk).cells.2.1
 have HC2 : Hid (∀ w', KT base w w' → w'.cell? ⟨sb, 0, none⟩ = some (.pointer (some ⟨db, 0, none⟩))) := fun w' hk => (HEV.out.kt hk).cells.2.2
 clear h hX
 generalize stpE d f .sync = EV at *
 generalize stpD d f .sync = DV at *
 go_enter Tryz.func88, Tryz.ntmps88
 go_upto_region 1 with fail
 refine wp_region_eager_in (KT base w) [(0, true), (1, true), (2, true), (3, true), (4, true), (5, false), (6, true)] (by kernel_rfl) (by kernel_rfl) ?_ (eagerOpen rfl ?_)
 ·exact KT.of_below (below_drew1 _ _)
 have hy0 : Below w.heap.size w w.drew := below_drew1 _ _
 repeat (first
  | ((first | (apply wpEager_take; (· rfl); (· (intro w' hb'; go_simp; try with_reducible rfl))) | refine wpEager_skip (by rfl) ?_ | refine wpEager_off (by rfl) ?_); (try simp only [Act.put, zA, zB, zC]); (try refine eagerOpen rfl ?_))
  | (apply wpEager_take; (· rfl); (· (intro w' hb'; have hk' := (fun w' hk => HC0.out w' hk) w' hb'; go_split_ands; go_simp; try with_reducible rfl)); (try simp only [Act.put, zA, zB, zC]); (try refine eagerOpen rfl ?_))
  | (apply wpEager_take; (· rfl); (· (intro w' hb'; have hk' := (fun w' hk => HC1.out w' hk) w' hb'; go_split_ands; go_simp; try with_reducible rfl)); (try simp only [Act.put, zA, zB, zC]); (try refine eagerOpen rfl ?_))
  | (apply wpEager_take; (· rfl); (· (intro w' hb'; have hk' := (fun w' hk => HC2.out w' hk) w' hb'; go_split_ands; go_simp; try with_reducible rfl)); (try simp only [Act.put, zA, zB, zC]); (try refine eagerOpen rfl ?_)))
 skip
 (refine wpEager_op (by rfl) (fun K hK => ?_); go_simp; (refine (HC.out _ hy0).mono ?_; rintro e y ⟨rfl, hdx, hkt⟩; have hyk := (KT.of_below hy0).trans hkt); refine Shut.out hK _ _ (by assumption) ?_; clear hK K; (try simp only [Act.put, zA, zB, zC]); (try refine eagerOpen rfl ?_))
 repeat (first
  | ((first | (apply wpEager_take; (· rfl); (· (intro w' hb'; go_simp; try with_reducible rfl))) | refine wpEager_skip (by rfl) ?_ | refine wpEager_off (by rfl) ?_); (try simp only [Act.put, zA, zB, zC]); (try refine eagerOpen rfl ?_)))
 refine eagerEnd ?_
 have HDX := Lib.hid hdx
 have HKT := Lib.hid hyk
 clear hdx hkt hyk hy0 HC0 HC1 HC2 HC
 go_wp2_with fail
 go_ret
 exact ⟨rfl, HDX.out, HKT.out⟩
set_option maxRecDepth 100000 in
set_option maxHeartbeats 1600000 in
theorem put_clo {base sb db bs bf bb f : Nat} {d : DD} {y0 : List UInt8} (w : World) (hf : f < 3) (h : Env base sb db bs bf bb f y0 w) (hX : DX base db d w) (hy : y0.length ≤ 140737488355328) (hfew : (fD d f).steps.length + 1 ≤ 4398046511104) :
  Calls Tryz.prog 89 #[.pointer (some ⟨bs, 0, none⟩), .pointer (some ⟨bf, 0, none⟩), .pointer (some ⟨bb, 0, none⟩)] w (StP base db (stpE d f (.put y0)) (stpD d f (.put y0)) w) := by
 have HEV := Lib.hid h
 obtain ⟨pb, cb, hbb, hrd⟩ := h.hb
 obtain ⟨p', c', e1, hbs⟩ := hrd.bs
 cases e1
 have HC : Hid (∀ y, Below w.heap.size w y → Calls Tryz.prog 24 #[.pointer (some ⟨db, 0, none⟩), .int .i64 (f : Int), .slice pb y0.length cb] y (StP base db (stpE d f (.put y0)) (stpD d f (.put y0)) y)) := fun y hy' => xappend y (hX.below hy') f hf pb y0.length cb y0 (hbs.below hy') hy hfew
 have HC3 : Hid (∀ w', KT base w w' → w'.cell? ⟨bb, 0, none⟩ = some (.slice pb y0.length cb)) := fun w' hk => by rw [cell_of_row _ _ _ _ _ _ (hk.row hbb (by decide) (by decide))]; rfl
 have HC0 : Hid (∀ w', KT base w w' → w'.cell? ⟨bs, 0, none⟩ = some (.pointer (some ⟨sb, 0, none⟩))) := fun w' hk => (HEV.out.kt hk).cells.1
 have HC1 : Hid (∀ w', KT base w w' → w'.cell? ⟨bf, 0, none⟩ = some (.int .i64 (f : Int))) := fun w' hk => (HEV.out.kt hk).cells.2.1
 have HC2 : Hid (∀ w', KT base w w' → w'.cell? ⟨sb, 0, none⟩ = some (.pointer (some ⟨db, 0, none⟩))) := fun w' hk => (HEV.out.kt hk).cells.2.2
 clear h hX hfew hbs hrd hbb hy
 generalize stpE d f (.put y0) = EV at *
 generalize stpD d f (.put y0) = DV at *
 go_enter Tryz.func89, Tryz.ntmps89
 go_upto_region 1 with fail
 refine wp_region_eager_in (KT base w) [(0, true), (1, true), (2, true), (3, true), (4, true), (5, true), (6, false), (7, true)] (by kernel_rfl) (by kernel_rfl) ?_ (eagerOpen rfl ?_)
 ·exact KT.of_below (below_drew1 _ _)
 have hy0 : Below w.heap.size w w.drew := below_drew1 _ _
 repeat (first
  | ((first | (apply wpEager_take; (· rfl); (· (intro w' hb'; go_simp; try with_reducible rfl))) | refine wpEager_skip (by rfl) ?_ | refine wpEager_off (by rfl) ?_); (try simp only [Act.put, zA, zB, zC]); (try refine eagerOpen rfl ?_))
  | (apply wpEager_take; (· rfl); (· (intro w' hb'; have hk' := (fun w' hk => HC0.out w' hk) w' hb'; go_split_ands; go_simp; try with_reducible rfl)); (try simp only [Act.put, zA, zB, zC]); (try refine eagerOpen rfl ?_))
  | (apply wpEager_take; (· rfl); (· (intro w' hb'; have hk' := (fun w' hk => HC1.out w' hk) w' hb'; go_split_ands; go_simp; try with_reducible rfl)); (try simp only [Act.put, zA, zB, zC]); (try refine eagerOpen rfl ?_))
  | (apply wpEager_take; (· rfl); (· (intro w' hb'; have hk' := (fun w' hk => HC2.out w' hk) w' hb'; go_split_ands; go_simp; try with_reducible rfl)); (try simp only [Act.put, zA, zB, zC]); (try refine eagerOpen rfl ?_))
  | (apply wpEager_take; (· rfl); (· (intro w' hb'; have hk' := (fun w' hk => HC3.out w' hk) w' hb'; go_split_ands; go_simp; try with_reducible rfl)); (try simp only [Act.put, zA, zB, zC]); (try refine eagerOpen rfl ?_)))
 skip
 (refine wpEager_op (by rfl) (fun K hK => ?_); go_simp; (refine (HC.out _ hy0).mono ?_; rintro e y ⟨rfl, hdx, hkt⟩; have hyk := (KT.of_below hy0).trans hkt); refine Shut.out hK _ _ (by assumption) ?_; clear hK K; (try simp only [Act.put, zA, zB, zC]); (try refine eagerOpen rfl ?_))
 repeat (first
  | ((first | (apply wpEager_take; (· rfl); (· (intro w' hb'; go_simp; try with_reducible rfl))) | refine wpEager_skip (by rfl) ?_ | refine wpEager_off (by rfl) ?_); (try simp only [Act.put, zA, zB, zC]); (try refine eagerOpen rfl ?_)))
 refine eagerEnd ?_
 have HDX := Lib.hid hdx
 have HKT := Lib.hid hyk
 clear hdx hkt hyk hy0 HC0 HC1 HC2 HC
 go_wp2_with fail
 go_ret
 exact ⟨rfl, HDX.out, HKT.out⟩
def fnV (bs bf bb : Nat) : LA → Value
 | .cut => .func (.func 86) #[] #[.pointer (some ⟨bs, 0, none⟩), .pointer (some ⟨bf, 0, none⟩)]
 | .sync => .func (.func 88) #[] #[.pointer (some ⟨bs, 0, none⟩), .pointer (some ⟨bf, 0, none⟩)]
 | .put _ => .func (.func 89) #[] #[.pointer (some ⟨bs, 0, none⟩), .pointer (some ⟨bf, 0, none⟩), .pointer (some ⟨bb, 0, none⟩)]
theorem few_take {f : FD} {s : St} {N : Nat} (h : f.steps.length ≤ N) : (f.take s).steps.length ≤ N + 1 := by
 show (f.steps ++ [s]).length ≤ _
 rw [List.length_append]
 simp; omega
theorem few_set {d : DD} {i k : Nat} {f : FD} {N : Nat} (h : ∀ j, (fD d j).steps.length ≤ N) (hf : f.steps.length ≤ N) : (fD (setF d i f) k).steps.length ≤ N := by
 by_cases hk : i = k
 ·subst hk
  by_cases hl : i < d.fs.length
  ·rw [fD_set hl]; exact hf
  ·have : fD (setF d i f) i = FD.none := by
    unfold fD setF
    rw [List.getElem?_eq_none (by rw [List.length_set]; omega)]; rfl
   rw [this]; exact Nat.zero_le _
 ·rw [fD_other hk]; exact h k
theorem fD_burn (d : DD) (k : Nat) : fD d.burn k = fD d k := by unfold fD; rw [burn_fs]
theorem few_do {d : DD} {i : Nat} {s : St} {N : Nat} (h : ∀ j, (fD d j).steps.length ≤ N) (k : Nat) : (fD (doD d i (fD d i) s) k).steps.length ≤ N + 1 := by
 unfold doD
 split
 ·have := h k; omega
 ·split
  ·have := h k; omega
  ·rw [fD_burn]
   exact few_set (fun j => by have := h j; omega) (few_take (h i))
theorem few_syn {d : DD} {i : Nat} {N : Nat} (h : ∀ j, (fD d j).steps.length ≤ N) (k : Nat) : (fD (syncD d i (fD d i)) k).steps.length ≤ N + 1 := by
 unfold syncD
 split
 ·have := h k; omega
 ·split
  ·rw [fD_burn]; have := h k; omega
  ·exact few_set (fun j => by rw [fD_burn]; have := h j; omega) (Nat.zero_le _)
theorem few_stp {d : DD} {i : Nat} {a : LA} {N : Nat} (h : ∀ j, (fD d j).steps.length ≤ N) (k : Nat) : (fD (stpD d i a) k).steps.length ≤ N + 1 := by
 cases a with
 | cut => exact few_do h k
 | sync => exact few_syn h k
 | put b => exact few_do h k
set_option maxRecDepth 100000 in
set_option maxHeartbeats 3200000 in
theorem lay_any {base sb db bs bf bb f gl N : Nat} {d : DD} {y : List UInt8} (l : List LA) (w : World) (hf : f < 3) (h : Env base sb db bs bf bb f y w) (hX : DX base db d w) (hl : l.length ≤ 4) (hput : ∀ b, LA.put b ∈ l → b = y)
  (hy : y.length ≤ 140737488355328) (hN : N ≤ 4398046000000) (hfew : ∀ j, (fD d j).steps.length ≤ N) (hrow : w.heap[gl]? = some (.cells (l.map (fnV bs bf bb)).toArray 99 (0, 0))) :
  Calls Tryz.prog 91 #[.slice (some ⟨gl, 0, none⟩) l.length l.length] w (StP base db (layE f l d) (layD f l d) w) := by
 have HF := Lib.hid hf
 have HEV := Lib.hid h
 have HX0 := Lib.hid hX
 have HPUT := Lib.hid hput
 have HY := Lib.hid hy
 have HNN := Lib.hid hN
 have HFW0 : Hid (∀ j, (fD d j).steps.length ≤ N + 0) := hfew
 have HROW := Lib.hid hrow
 have HLL := Lib.hid hl
 clear h hX hput hy hN hfew hrow hf
 go_enter Tryz.func91, Tryz.ntmps91
 go_wp2_with fail
 go_loopw [4, 5, 8] (fun cv ev j wr => ∃ k : Nat, k ≤ l.length ∧ j = .int .i64 k ∧ ∃ D, layD f l d = layD f (l.drop k) D ∧ layE f l d = layE f (l.drop k) D ∧ DX base db D wr ∧ KT base w wr ∧ ∀ j, (fD D j).steps.length ≤ N + k) (fun _ _ j _ => l.length - (intOf j).toNat)
 case atStart => exact ⟨0, by omega, rfl, d, rfl, rfl, HX0.out, KT.refl _ _, HFW0.out⟩
 case round =>
  obtain ⟨k, hk, rfl, D, hl1, hl2, hx, hkw, hfw⟩ := hrel
  have HL1 := Lib.hid hl1
  have HL2 := Lib.hid hl2
  have HXW := Lib.hid hx
  have HKW := Lib.hid hkw
  have HFW := Lib.hid hfw
  clear hl1 hl2 hx hkw hfw
  by_cases hlt : k < l.length
  ·have hd : decide ((k : Int) < (l.length : Int)) = true := decide_eq_true (by omega)
   have hd2 : decide (k < l.length) = true := decide_eq_true hlt
   have HDR : Hid (l.drop k = l[k] :: l.drop (k + 1)) := List.drop_eq_getElem_cons hlt
   have hrw := HKW.out.row HROW.out (by decide) (by decide)
   have hce : wr.cell? ⟨gl, k, none⟩ = some (fnV bs bf bb l[k]) := by
    rw [cell_of_row _ _ _ _ _ _ hrw]
    simp [hlt]
   have HEW := Lib.hid (HEV.out.kt HKW.out)
   have hmem : l[k] ∈ l := List.getElem_mem hlt
   clear hrw
   cases hA : l[k] with
   | cut =>
    rw [hA] at hce
    unfold fnV at hce
    have HCL := Lib.hid (cut_clo wr HF.out HEW.out HXW.out (by have h1 := HFW.out f; have h2 := HNN.out; have h3 := HLL.out; omega))
    clear hmem
    skip
    go_wp2_with fail
    refine HCL.out.mono ?_
    rintro e w5 ⟨rfl, hdx, hkt⟩
    have HDX := Lib.hid hdx
    have HK5 := Lib.hid (HKW.out.trans hkt)
    clear hdx hkt HCL
    by_cases hE : stpE D f LA.cut = 0
    ·obtain ⟨g1, g2⟩ := lay_ok (r := l.drop (k + 1)) hE
     have HG1 : Hid (layD f l d = layD f (l.drop (k + 1)) (stpD D f LA.cut)) := by show _ = _; rw [HL1.out, HDR.out, hA, g1]
     have HG2 : Hid (layE f l d = layE f (l.drop (k + 1)) (stpD D f LA.cut)) := by show _ = _; rw [HL2.out, HDR.out, hA, g2]
     have HFW2 : Hid (∀ j, (fD (stpD D f LA.cut) j).steps.length ≤ N + (k + 1)) := fun j => few_stp HFW.out j
     have hne : (stpE D f LA.cut != 0) = false := by rw [hE]; rfl
     clear hE g1 g2 hA
     generalize stpE D f LA.cut = EV at *
     generalize stpD D f LA.cut = DV at *
     go_wp2_with fail
     go_roundw
     case rel => exact ⟨k + 1, by omega, by go_num, DV, HG1.out, HG2.out, HDX.out, HK5.out, HFW2.out⟩
     case measure => simp [intOf]; omega
    ·obtain ⟨g1, g2⟩ := lay_no (r := l.drop (k + 1)) hE
     have HG1 : Hid (layD f l d = stpD D f LA.cut) := by show _ = _; rw [HL1.out, HDR.out, hA, g1]
     have HG2 : Hid (layE f l d = stpE D f LA.cut) := by show _ = _; rw [HL2.out, HDR.out, hA, g2]
     have hne : (stpE D f LA.cut != 0) = true := bne_iff_ne.2 hE
     clear hE g1 g2 hA
     generalize stpE D f LA.cut = EV at *
     generalize stpD D f LA.cut = DV at *
     go_wp2_with fail
     go_ret
     exact ⟨by (rw [HG2.out]; first | done | rfl), by rw [HG1.out]; exact HDX.out, HK5.out⟩
   | sync =>
    rw [hA] at hce
    unfold fnV at hce
    have HCL := Lib.hid (sync_clo wr HF.out HEW.out HXW.out)
    clear hmem
    skip
    go_wp2_with fail
    refine HCL.out.mono ?_
    rintro e w5 ⟨rfl, hdx, hkt⟩
    have HDX := Lib.hid hdx
    have HK5 := Lib.hid (HKW.out.trans hkt)
    clear hdx hkt HCL
    by_cases hE : stpE D f LA.sync = 0
    ·obtain ⟨g1, g2⟩ := lay_ok (r := l.drop (k + 1)) hE
     have HG1 : Hid (layD f l d = layD f (l.drop (k + 1)) (stpD D f LA.sync)) := by show _ = _; rw [HL1.out, HDR.out, hA, g1]
     have HG2 : Hid (layE f l d = layE f (l.drop (k + 1)) (stpD D f LA.sync)) := by show _ = _; rw [HL2.out, HDR.out, hA, g2]
     have HFW2 : Hid (∀ j, (fD (stpD D f LA.sync) j).steps.length ≤ N + (k + 1)) := fun j => few_stp HFW.out j
     have hne : (stpE D f LA.sync != 0) = false := by rw [hE]; rfl
     clear hE g1 g2 hA
     generalize stpE D f LA.sync = EV at *
     generalize stpD D f LA.sync = DV at *
     go_wp2_with fail
     go_roundw
     case rel => exact ⟨k + 1, by omega, by go_num, DV, HG1.out, HG2.out, HDX.out, HK5.out, HFW2.out⟩
     case measure => simp [intOf]; omega
    ·obtain ⟨g1, g2⟩ := lay_no (r := l.drop (k + 1)) hE
     have HG1 : Hid (layD f l d = stpD D f LA.sync) := by show _ = _; rw [HL1.out, HDR.out, hA, g1]
     have HG2 : Hid (layE f l d = stpE D f LA.sync) := by show _ = _; rw [HL2.out, HDR.out, hA, g2]
     have hne : (stpE D f LA.sync != 0) = true := bne_iff_ne.2 hE
     clear hE g1 g2 hA
     generalize stpE D f LA.sync = EV at *
     generalize stpD D f LA.sync = DV at *
     go_wp2_with fail
     go_ret
     exact ⟨by (rw [HG2.out]; first | done | rfl), by rw [HG1.out]; exact HDX.out, HK5.out⟩
   | put y' =>
    rw [hA] at hce hmem
    unfold fnV at hce
    obtain rfl := HPUT.out _ hmem
    have HCL := Lib.hid (put_clo wr HF.out HEW.out HXW.out HY.out (by have h1 := HFW.out f; have h2 := HNN.out; have h3 := HLL.out; omega))
    clear hmem
    skip
    go_wp2_with fail
    refine HCL.out.mono ?_
    rintro e w5 ⟨rfl, hdx, hkt⟩
    have HDX := Lib.hid hdx
    have HK5 := Lib.hid (HKW.out.trans hkt)
    clear hdx hkt HCL
    by_cases hE : stpE D f (LA.put y') = 0
    ·obtain ⟨g1, g2⟩ := lay_ok (r := l.drop (k + 1)) hE
     have HG1 : Hid (layD f l d = layD f (l.drop (k + 1)) (stpD D f (LA.put y'))) := by show _ = _; rw [HL1.out, HDR.out, hA, g1]
     have HG2 : Hid (layE f l d = layE f (l.drop (k + 1)) (stpD D f (LA.put y'))) := by show _ = _; rw [HL2.out, HDR.out, hA, g2]
     have HFW2 : Hid (∀ j, (fD (stpD D f (LA.put y')) j).steps.length ≤ N + (k + 1)) := fun j => few_stp HFW.out j
     have hne : (stpE D f (LA.put y') != 0) = false := by rw [hE]; rfl
     clear hE g1 g2 hA
     generalize stpE D f (LA.put y') = EV at *
     generalize stpD D f (LA.put y') = DV at *
     go_wp2_with fail
     go_roundw
     case rel => exact ⟨k + 1, by omega, by go_num, DV, HG1.out, HG2.out, HDX.out, HK5.out, HFW2.out⟩
     case measure => simp [intOf]; omega
    ·obtain ⟨g1, g2⟩ := lay_no (r := l.drop (k + 1)) hE
     have HG1 : Hid (layD f l d = stpD D f (LA.put y')) := by show _ = _; rw [HL1.out, HDR.out, hA, g1]
     have HG2 : Hid (layE f l d = stpE D f (LA.put y')) := by show _ = _; rw [HL2.out, HDR.out, hA, g2]
     have hne : (stpE D f (LA.put y') != 0) = true := bne_iff_ne.2 hE
     clear hE g1 g2 hA
     generalize stpE D f (LA.put y') = EV at *
     generalize stpD D f (LA.put y') = DV at *
     go_wp2_with fail
     go_ret
     exact ⟨by (rw [HG2.out]; first | done | rfl), by rw [HG1.out]; exact HDX.out, HK5.out⟩
  ·have hd : decide ((k : Int) < (l.length : Int)) = false := decide_eq_false (by omega)
   have hd2 : decide (k < l.length) = false := decide_eq_false hlt
   obtain rfl : k = l.length := by omega
   rw [List.drop_length] at HL1 HL2
   have HG1 : Hid (layD f l d = D) := HL1.out
   have HG2 : Hid (layE f l d = 0) := HL2.out
   clear HL1 HL2
   go_wp2_with fail
   go_ret
   exact ⟨by (rw [HG2.out]; first | done | rfl), by rw [HG1.out]; exact HXW.out, HKW.out⟩
end Go.Proofs.YtnejjfglkindjaaGreatDoor.Slt
namespace Go.Mir
open Go.RowKit
inductive Tr where
 | nil
 | take (i : Nat) (r : Tr)
 | one (i : Nat) (r : Tr)
 | two (i j : Nat) (r s : Tr)
def Tr.deep : Tr → Nat
 | .nil => 0
 | .take _ r => r.deep + 1
 | .one _ r => r.deep + 1
 | .two _ _ r _ => r.deep + 1
def treeB (ops : Array Oper) : Tr → Array Bool → Bool
 | .nil, l => (Region.ready .any ops l).isEmpty
 | .take i r, l => (ops[i]?).isSome && Region.free .any ops l i && (Region.ready .any ops l).contains i && treeB ops r (l.setIfInBounds i true)
 | .one i r, l => (ops[i]?).isSome && Region.ready .any ops l == [i] && treeB ops r (l.setIfInBounds i true)
 | .two i j r s, l => (ops[i]?).isSome && (ops[j]?).isSome && Region.ready .any ops l == [i, j] && r.deep == s.deep && !(i == j) && treeB ops r (l.setIfInBounds i true) && treeB ops s (l.setIfInBounds j true)
section
variable {P : Program} {ops : Array Oper} {S : World → Prop} {Q : Exit → Act → World → Prop}
def wpTurn (P : Program) (ops : Array Oper) (o : Oper) (a : Act) (w : World) (K : Act → World → Prop) (Q : Exit → Act → World → Prop) : Prop :=
 if Region.wanted o (yielded ops a.tmps) then o.wp P a w K Q else K (a.put o.dst undef) w
def wpTree (P : Program) (ops : Array Oper) (S : World → Prop) (Q : Exit → Act → World → Prop) (l : List Oper) : Tr → Act → World → Prop
 | .nil, a, w => Q .normal a w
 | .take i r, a, w => match nthO l i with
  | some o => ∃ v, YieldsIf P ops S o v a ∧ wpTree P ops S Q l r (a.put o.dst v) w
  | none => False
 | .one i r, a, w => match nthO l i with
  | some o => wpTurn P ops o a w (fun a' w' => S w' ∧ wpTree P ops S Q l r a' w') Q
  | none => False
 | .two i j r s, a, w => (match nthO l i with
  | some o => wpTurn P ops o a w (fun a' w' => S w' ∧ wpTree P ops S Q l r a' w') Q
  | none => False) ∧ (match nthO l j with
  | some o => wpTurn P ops o a w (fun a' w' => S w' ∧ wpTree P ops S Q l s a' w') Q
  | none => False)
theorem wpOp_turn {i : Nat} {o : Oper} {K K' : Act → World → Prop} {a : Act} {w : World} (ho : ops[i]? = some o) (hK : ∀ a w, K a w → K' a w) (h : wpTurn P ops o a w K Q) : wpOp P ops Q i K' a w := by
 unfold wpOp
 simp only [ho]
 unfold wpTurn at h
 split at h
 ·rename_i hw
  rw [if_pos hw]
  exact .inl (Oper.wp_mono (fun a' w' h5 => hK _ _ h5) h)
 ·rename_i hw
  rw [if_neg hw]
  exact hK _ _ h
theorem wpAnyH_tree {l : List Oper} (hl : l.toArray = ops) (hs : Region.noSelect ops = true) (hQ : ∀ c a d v w, Q (.panic c) (a.put d v) w → Q (.panic c) a w) :
  ∀ (t : Tr) (listed : Array Bool) (a : Act) (w : World), treeB ops t listed = true → S w → wpTree P ops S Q l t a w → wpAnyH P .any ops Q S t.deep listed a w
 | .nil, listed, a, w, hp, _, h => by
  refine wpAnyH_done ?_ h _
  simpa [treeB, List.isEmpty_iff] using hp
 | .take i r, listed, a, w, hp, hS, h => by
  simp only [treeB, Bool.and_eq_true] at hp
  obtain ⟨⟨⟨h1, h2⟩, h3⟩, h4⟩ := hp
  obtain ⟨o, ho⟩ := Option.isSome_iff_exists.1 h1
  have hn : nthO l i = some o := by rw [← nthO_eq, hl]; exact ho
  simp only [wpTree, hn] at h
  obtain ⟨v, hy, h⟩ := h
  exact wpAnyH_take ho hs h2 h3 (fun c a w => hQ c a _ _ w) hy hS (wpAnyH_tree hl hs hQ r _ _ _ h4 hS h)
 | .one i r, listed, a, w, hp, hS, h => by
  simp only [treeB, Bool.and_eq_true, beq_iff_eq] at hp
  obtain ⟨⟨h1, h2⟩, h4⟩ := hp
  obtain ⟨o, ho⟩ := Option.isSome_iff_exists.1 h1
  have hn : nthO l i = some o := by rw [← nthO_eq, hl]; exact ho
  simp only [wpTree, hn] at h
  refine wpAnyH_all h2 (by simp) fun j hj => ?_
  rw [List.mem_singleton] at hj
  subst hj
  exact wpOp_turn ho (fun a' w' ⟨h5, h6⟩ => ⟨h5, wpAnyH_tree hl hs hQ r _ _ _ h4 h5 h6⟩) h
 | .two i j r s, listed, a, w, hp, hS, h => by
  simp only [treeB, Bool.and_eq_true, beq_iff_eq] at hp
  obtain ⟨⟨⟨⟨⟨⟨h1, h1'⟩, h2⟩, hd⟩, hne⟩, h4⟩, h4'⟩ := hp
  obtain ⟨o, ho⟩ := Option.isSome_iff_exists.1 h1
  obtain ⟨o', ho'⟩ := Option.isSome_iff_exists.1 h1'
  have hn : nthO l i = some o := by rw [← nthO_eq, hl]; exact ho
  have hn' : nthO l j = some o' := by rw [← nthO_eq, hl]; exact ho'
  simp only [wpTree, hn, hn'] at h
  refine wpAnyH_all h2 (by simp) fun k hk => ?_
  rcases List.mem_cons.1 hk with rfl | hk
  ·exact wpOp_turn ho (fun a' w' ⟨h5, h6⟩ => ⟨h5, wpAnyH_tree hl hs hQ r _ _ _ h4 h5 h6⟩) h.1
  ·rw [List.mem_singleton] at hk
   subst hk
   exact wpOp_turn ho' (fun a' w' ⟨h5, h6⟩ => ⟨h5, by rw [hd]; exact wpAnyH_tree hl hs hQ s _ _ _ h4' h5 h6⟩) h.2
theorem wp_region_tree {id : Nat} {a : Act} {w : World} {l : List Oper} (S : World → Prop) (t : Tr) (hm : P.follows .mixedOrders = true)
  (hp : (treeB l.toArray t (Array.replicate l.length false) && Region.noSelect l.toArray && t.deep == l.length) = true) (hS : S w.drew)
  (h : wpTree P l.toArray S (NoPanic Q) l t a w.drew) : (Code.region id l.toArray true).wp P Q a w := by
 refine wp_region_noPanic ?_
 simp only [Bool.and_eq_true, beq_iff_eq] at hp
 obtain ⟨⟨h1, h2⟩, h3⟩ := hp
 have := wpAnyH_tree (P := P) (Q := NoPanic Q) (S := S) (l := l) rfl h2 (fun _ _ _ _ _ h => h) t (Array.replicate l.length false) a w.drew h1 hS h
 refine wp_region_held hm (S := S) ?_
 rw [h3] at this
 have hz : l.toArray.size = l.length := List.size_toArray ..
 rw [hz]
 exact this
theorem tree_take {l : List Oper} {i : Nat} {r : Tr} {a : Act} {w : World} {o : Oper} {v : Value} (hn : nthO l i = some o) (hw : Region.wanted o (yielded ops a.tmps) = true) (hy : ∀ w', S w' → (execOp a.eval o).run P w' = .ok (.value v) w')
  (h : wpTree P ops S Q l r (a.put o.dst v) w) : wpTree P ops S Q l (.take i r) a w := by
 simp only [wpTree, hn]; exact ⟨v, .inl ⟨hw, hy⟩, h⟩
theorem tree_load {l : List Oper} {i : Nat} {r : Tr} {a : Act} {w : World} {op : Oper} (hn : nthO l i = some op) (hw : Region.wanted op (yielded ops a.tmps) = true) (ty : TypeId) (x : Operand) (ho : op.op = .load ty x)
  (b o : Nat) (hx : a.eval x = .pointer (some ⟨b, o, none⟩)) (M : Array Value) (d : TypeDesc) (hc : ∀ w', S w' → w'.rangeAt b o M.toList)
  (hu : P.underlying ty = some d) (hd : d.isRow = true) (hi : (P.info? ty).map (·.size) = some M.size)
  (h : wpTree P ops S Q l r (a.put op.dst (.agg M)) w) : wpTree P ops S Q l (.take i r) a w := by
 refine tree_take hn hw (fun w' hb => ?_) h
 unfold execOp
 simp only [ho, hx, Instr.loadAt, Instr.sureAddr, Sem.run_bind, Sem.run_pure, Result.andThen_ok, run_loadVar_mid w' b o ty M.toList d (hc w' hb) hu hd (by simpa using hi)]
theorem tree_one {l : List Oper} {i : Nat} {r : Tr} {a : Act} {w : World} {o : Oper} (hn : nthO l i = some o) (hw : Region.wanted o (yielded ops a.tmps) = true)
  (h : ∀ K : Act → World → Prop, Shut (∀ a w, S w → wpTree P ops S Q l r a w → K a w) → Oper.wp P o a w K Q) : wpTree P ops S Q l (.one i r) a w := by
 simp only [wpTree, hn, wpTurn]; rw [if_pos hw]; exact h _ fun _ _ h1 h2 => ⟨h1, h2⟩
theorem tree_two {l : List Oper} {i j : Nat} {r s : Tr} {a : Act} {w : World} (h1 : wpTree P ops S Q l (.one i r) a w) (h2 : wpTree P ops S Q l (.one j s) a w) : wpTree P ops S Q l (.two i j r s) a w := by
 simp only [wpTree] at h1 h2 ⊢; exact ⟨h1, h2⟩
theorem tree_nil {l : List Oper} {a : Act} {w : World} (h : Q .normal a w) : wpTree P ops S (NoPanic Q) l .nil a w := h
end
end Go.Mir
namespace Go.Mir
open Go.RowKit
inductive Tr3 where
 | nil
 | take (i : Nat) (r : Tr3)
 | one (i : Nat) (r : Tr3)
 | two (i j : Nat) (r s : Tr3)
 | three (i j k : Nat) (r s u : Tr3)
def Tr3.deep : Tr3 → Nat
 | .nil => 0
 | .take _ r => r.deep + 1
 | .one _ r => r.deep + 1
 | .two _ _ r _ => r.deep + 1
 | .three _ _ _ r _ _ => r.deep + 1
section
variable {P : Program} {ops : Array Oper} {S : World → Prop} {Q : Exit → Act → World → Prop}
end
theorem wp_mid {P : Program} {c : Code} {Q : Exit → Act → World → Prop} {a : Act} {w : World} (R : Act → Act → World → Prop) (h : c.wp P (fun e a' y => e = .normal ∧ R a a' y) a w) (k : ∀ a' y, R a a' y → Q .normal a' y) : c.wp P Q a w :=
 Code.wp_mono (fun e a' y ⟨he, hr⟩ => by subst he; exact k a' y hr) h
theorem tree_key {P : Program} {ops : Array Oper} {S : World → Prop} {Q : Exit → Act → World → Prop} {l : List Oper} {t : Tr} {a : Act} {w : World} (R : Act → Act → World → Prop) (r : Tr) (k : ∀ a' y, R a a' y → wpTree P ops S Q l r a' y) (h : (∀ a' y, R a a' y → wpTree P ops S Q l r a' y) → wpTree P ops S Q l t a w) : wpTree P ops S Q l t a w := h k
theorem wp_key {P : Program} {c : Code} {K K1 : Act → World → Prop} {Q : Exit → Act → World → Prop} {a : Act} {w : World} (R : Act → Act → World → Prop) (k : ∀ a' y, R a a' y → K1 a' y) (h : (∀ a' y, R a a' y → K1 a' y) → c.wp P (Exit.then K Q) a w) : c.wp P (Exit.then K Q) a w := h k
end Go.Mir
