/- PARTS, JOINED: THE WALKS OF A ROLL: Append, Clear, Bodies, Len, Size. Conditions: the laid cell of errors.errorType where frames are scanned; bodies of at most 4000 bytes. THE WALKS OF A ROLL, on: Bodies, Len, Size, mend, Open. Conditions: the laid cell of errors.errorType. VAULTS BESIDE OTHER MEMORY: their row, what their calls leave; plain: what is read. Conditions: none. VAULTS: fill (the snapshot, and the records behind it). Conditions: the laid cell of errors.errorType. VAULTS: fill, walked. Conditions: the laid cell of errors.errorType. VAULTS: Open; what is told. Conditions: the laid cell of errors.errorType. VAULTS: what is told. Conditions: none. -/
import Derived.Test.YtnejjfglkindjaaGreatDoorVb1
import Derived.Test.YtnejjfglkindjaaGreatDoorVb2
import Derived.Test.YtnejjfglkindjaaGreatDoorVb3
import Derived.Test.YtnejjfglkindjaaGreatDoorVb4
import Derived.Test.YtnejjfglkindjaaGreatDoorVb5
import Derived.Test.YtnejjfglkindjaaGreatDoorVb6
import Derived.Test.YtnejjfglkindjaaGreatDoorVb7
import Derived.Test.YtnejjfglkindjaaGreatDoorVb8
import Derived.Test.YtnejjfglkindjaaGreatDoorVb9
import Derived.BigQuiet
namespace Go.Proofs.YtnejjfglkindjaaGreatDoor.Rol
open Go.RowKit Go.Mir Go.Mir.Parts Dk
open Frm (frame scan)
open Cut (Ls LsO)

theorem enc_ok {l : List UInt8} (h : 1 ≤ l.length) : Frm.enc l = (frame l, 0) := by unfold Frm.enc; rw [if_neg (by omega)]
theorem enc_no {l : List UInt8} (h : l.length = 0) : Frm.enc l = ([], 1) := by unfold Frm.enc; rw [if_pos h]

def rolA (db i : Nat) : Array Value := #[.pointer (some ⟨db, 0, none⟩), .int .i64 (i : Int)]
def RolAt (w : World) (rb db i : Nat) : Prop := w.heap[rb]? = some (.cells (rolA db i) 136 (0, 0))
theorem RolAt.below {w w' : World} {rb db i : Nat} (h : RolAt w rb db i) (hb : Below w.heap.size w w') : RolAt w' rb db i := Below.keepOld hb h
theorem RolAt.lt {w : World} {rb db i : Nat} (h : RolAt w rb db i) : rb < w.heap.size := (Array.getElem?_eq_some_iff.1 h).1
theorem RolAt.c0 {w : World} {rb db i : Nat} (h : RolAt w rb db i) : w.cell? ⟨rb, 0, none⟩ = some (.pointer (some ⟨db, 0, none⟩)) := by rw [cell_of_row _ _ _ _ _ _ h]; rfl
theorem RolAt.c1 {w : World} {rb db i : Nat} (h : RolAt w rb db i) : w.cell? ⟨rb, 1, none⟩ = some (.int .i64 (i : Int)) := by rw [cell_of_row _ _ _ _ _ _ h]; rfl
theorem RolAt.kt {w w' : World} {base rb db i : Nat} (h : RolAt w rb db i) (hk : KT base w w') : RolAt w' rb db i := hk.row h (by decide) (by decide)
theorem rnone_any {rb db i : Nat} (w : World) (h : RolAt w rb db i) : Calls Tryz.prog 77 #[.pointer (some ⟨rb, 0, none⟩)] w fun e w' => e = .returned (.bool false) ∧ w = w' := by
  have hc := h.c0
  clear h
  go_enter Tryz.func77, Tryz.ntmps77
  go_wp2_with fail
  go_ret
  exact ⟨rfl, rfl⟩
theorem tail7 {P : Program} {ops : Array Oper} {Q : Exit → Act → World → Prop} {l : List Oper} {i1 i2 i3 i4 i5 i6 i7 : Nat} {a : Act} {w : World} {o1 o2 o3 o4 o5 o6 o7 : Oper} (h1 : nthO l i1 = some o1) (h2 : nthO l i2 = some o2) (h3 : nthO l i3 = some o3) (h4 : nthO l i4 = some o4) (h5 : nthO l i5 = some o5) (h6 : nthO l i6 = some o6) (h7 : nthO l i7 = some o7) (h : wpList P ops Q [o1, o2, o3, o4, o5, o6, o7] a w) : wpList P ops Q (tailOps l [i1, i2, i3, i4, i5, i6, i7]) a w := by
  simp only [tailOps, h1, h2, h3, h4, h5, h6, h7]; exact h
set_option maxRecDepth 100000 in
set_option maxHeartbeats 1600000 in
theorem append_any {base db rb i : Nat} {d : DD} (w : World) (h : DX base db d w) (hr : RolAt w rb db i) (hi : i < 3) (p : Option Addr) (n c : Nat) (b : List UInt8) (hb : Bs w p n c b) (hn : n ≤ 4000) (hfew : (fD d i).steps.length + 1 ≤ 4398046511104) :
    Calls Tryz.prog 40 #[.pointer (some ⟨rb, 0, none⟩), .slice p n c] w (StP base db (appE d i b) (appD d i b) w) := by
  have H := Lib.hid h
  have HR := Lib.hid hr
  have HI := Lib.hid hi
  have HN := Lib.hid hb.length
  have HNN := Lib.hid hn
  have HEN := Lib.hid (Frm.encode_any p n c b w hb hn)
  have HRN := Lib.hid (rnone_any w hr)
  clear h hr hb hi
  by_cases h0 : b.length = 0
  · rw [enc_no h0] at HEN
    obtain ⟨a1, a2⟩ := app_nil d i b h0
    have HA1 := Lib.hid a1
    have HA2 := Lib.hid a2
    clear a1 a2 h0
    go_enter Tryz.func40, Tryz.ntmps40
    go_wp2_with fail
    refine HRN.out.mono ?_
    rintro e w' ⟨rfl, rfl⟩
    go_wp2_with fail
    refine HEN.out.mono ?_
    rintro e w1 ⟨p1, c1, rfl, ho1, hb1⟩
    have HB1 := Lib.hid hb1
    clear ho1 hb1
    go_wp2_with fail
    go_ret
    exact ⟨by rw [HA1.out]; rfl, by rw [HA2.out]; exact H.out.below HB1.out, .of_below HB1.out⟩
  · rw [enc_ok (by omega)] at HEN
    have HFL : Hid ((frame b).length ≤ 140737488355328) := by show _ ≤ _; rw [Frm.frame_length]; have := HN.out; omega
    have HFEW := Lib.hid hfew
    have HAE : Hid (appE d i b = if doE d i (fD d i) (.put (frame b)) = 0 then syncE (doD d i (fD d i) (.put (frame b))) else doE d i (fD d i) (.put (frame b))) := by show _ = _; unfold appE; rw [if_neg h0]
    have HAD : Hid (appD d i b = if doE d i (fD d i) (.put (frame b)) = 0 then syncD (doD d i (fD d i) (.put (frame b))) i (fD (doD d i (fD d i) (.put (frame b))) i) else doD d i (fD d i) (.put (frame b))) := by show _ = _; unfold appD; rw [if_neg h0]
    clear h0
    go_enter Tryz.func40, Tryz.ntmps40
    go_wp2_with fail
    refine HRN.out.mono ?_
    rintro e w' ⟨rfl, rfl⟩
    go_wp2_with fail
    refine HEN.out.mono ?_
    rintro e w1 ⟨p1, c1, rfl, ho1, hb1⟩
    have HO1 := Lib.hid (Cut.own_bs ho1)
    have HX := Lib.hid (H.out.below hb1)
    have HRX := Lib.hid (HR.out.below hb1)
    have HKX : Hid (KT base w w1) := KT.of_below hb1
    clear ho1 hb1
    dsimp only
    go_upto_region 6 with fail
    have HC0 : Hid (∀ w', Below w1.heap.size w1 w' → w'.cell? ⟨rb, 0, none⟩ = some (.pointer (some ⟨db, 0, none⟩))) := fun w' hb => (HRX.out.below hb).c0
    have HC1 : Hid (∀ w', Below w1.heap.size w1 w' → w'.cell? ⟨rb, 1, none⟩ = some (.int .i64 (i : Int))) := fun w' hb => (HRX.out.below hb).c1
    refine wp_region_eager_t (Below w1.heap.size w1) [0, 1, 2, 3, 4, 5, 6, 7, 8] [(0, true), (1, true), (2, true), (3, true), (4, true), (5, true), (6, true), (7, true), (8, true)] [9, 10] (by kernel_rfl) (by kernel_rfl) ?_ (eagerTOpen rfl ?_)
    · exact below_drew1 _ _
    repeat (first
      | (first | (apply wpEagerT_take; (· rfl); (· (intro w' hb'; go_simp; try with_reducible rfl)); (try simp only [Act.put, List.setIfInBounds_toArray, List.set_cons_zero, List.set_cons_succ]); (try refine eagerTOpen rfl ?_)) | (refine wpEagerT_skip (by rfl) ?_; (try simp only [Act.put, List.setIfInBounds_toArray, List.set_cons_zero, List.set_cons_succ]); (try refine eagerTOpen rfl ?_)))
      | (apply wpEagerT_take; (· rfl); (· (intro w' hb'; have hk' := (HC0.out) w' hb'; go_split_ands; go_simp; try with_reducible rfl)); (try simp only [Act.put, List.setIfInBounds_toArray, List.set_cons_zero, List.set_cons_succ]); (try refine eagerTOpen rfl ?_))
      | (apply wpEagerT_take; (· rfl); (· (intro w' hb'; have hk' := (HC1.out) w' hb'; go_split_ands; go_simp; try with_reducible rfl)); (try simp only [Act.put, List.setIfInBounds_toArray, List.set_cons_zero, List.set_cons_succ]); (try refine eagerTOpen rfl ?_)))
    refine eagerTEnd (tail2 rfl rfl ?_)
    clear HC0 HC1
    have HO2 := Lib.hid (HO1.out.below (below_drew1 _ _))
    skip
    have HY := Lib.hid (HX.out.below (below_drew1 _ _))
    have HRY := Lib.hid (HRX.out.below (below_drew1 _ _))
    have HKY := Lib.hid (HKX.out.next (below_drew1 _ _))
    generalize w1.drew = w2 at *
    clear HX HRX HKX
    have HAP := Lib.hid (xappend w2 HY.out i HI.out p1 _ c1 (frame b) HO2.out HFL.out HFEW.out)
    generalize doE d i (fD d i) (.put (frame b)) = x at *
    generalize doD d i (fD d i) (.put (frame b)) = d1 at *
    go_wp2_with fail
    refine HAP.out.mono ?_
    rintro e w3 ⟨rfl, hd3, hk3⟩
    have HX := Lib.hid hd3
    have HKX := Lib.hid (HKY.out.trans hk3)
    have HRX := Lib.hid (HRY.out.kt hk3)
    clear hd3 hk3 HKY HRY HY HAP HO1 HO2
    go_wp2_with fail
    refine noPanic_end ?_
    by_cases hx : x = 0
    · have z1 : (x != 0) = false := by simp [hx]
      rw [if_pos hx] at HAE HAD
      clear hx
      go_upto_region 9 with fail
      have HC0 : Hid (∀ w', Below w3.heap.size w3 w' → w'.cell? ⟨rb, 0, none⟩ = some (.pointer (some ⟨db, 0, none⟩))) := fun w' hb => (HRX.out.below hb).c0
      have HC1 : Hid (∀ w', Below w3.heap.size w3 w' → w'.cell? ⟨rb, 1, none⟩ = some (.int .i64 (i : Int))) := fun w' hb => (HRX.out.below hb).c1
      refine wp_region_eager_t (Below w3.heap.size w3) [0, 1, 2, 3, 4, 5, 6, 7] [(0, true), (1, true), (2, true), (3, true), (4, true), (5, true), (6, true), (7, true)] [8, 9] (by kernel_rfl) (by kernel_rfl) ?_ (eagerTOpen rfl ?_)
      · exact below_drew1 _ _
      repeat (first
        | (first | (apply wpEagerT_take; (· rfl); (· (intro w' hb'; go_simp; try with_reducible rfl)); (try simp only [Act.put, List.setIfInBounds_toArray, List.set_cons_zero, List.set_cons_succ]); (try refine eagerTOpen rfl ?_)) | (refine wpEagerT_skip (by rfl) ?_; (try simp only [Act.put, List.setIfInBounds_toArray, List.set_cons_zero, List.set_cons_succ]); (try refine eagerTOpen rfl ?_)))
        | (apply wpEagerT_take; (· rfl); (· (intro w' hb'; have hk' := (HC0.out) w' hb'; go_split_ands; go_simp; try with_reducible rfl)); (try simp only [Act.put, List.setIfInBounds_toArray, List.set_cons_zero, List.set_cons_succ]); (try refine eagerTOpen rfl ?_))
        | (apply wpEagerT_take; (· rfl); (· (intro w' hb'; have hk' := (HC1.out) w' hb'; go_split_ands; go_simp; try with_reducible rfl)); (try simp only [Act.put, List.setIfInBounds_toArray, List.set_cons_zero, List.set_cons_succ]); (try refine eagerTOpen rfl ?_)))
      refine eagerTEnd (tail2 rfl rfl ?_)
      clear HC0 HC1
      have HY := Lib.hid (HX.out.below (below_drew1 _ _))
      have HRY := Lib.hid (HRX.out.below (below_drew1 _ _))
      have HKY := Lib.hid (HKX.out.next (below_drew1 _ _))
      generalize w3.drew = w4 at *
      clear HX HRX HKX
      have HSY := Lib.hid (xsync w4 HY.out i HI.out)
      go_wp2_with fail
      refine HSY.out.mono ?_
      rintro e w5 ⟨rfl, hd5, hk5⟩
      have HD5 := Lib.hid hd5
      have HK5 := Lib.hid (HKY.out.trans hk5)
      clear hd5 hk5
      go_wp2_with fail
      refine noPanic_end ?_
      go_wp2_with fail
      go_ret
      exact ⟨by rw [HAE.out]; rfl, by rw [HAD.out]; exact HD5.out, HK5.out⟩
    · have z1 : (x != 0) = true := by simp [hx]
      rw [if_neg hx] at HAE HAD
      clear hx
      go_wp2_with fail
      go_ret
      exact ⟨by rw [HAE.out]; rfl, by rw [HAD.out]; exact HX.out, HKX.out⟩
set_option maxRecDepth 100000 in
set_option maxHeartbeats 1600000 in
theorem clear_any {base db rb i : Nat} {d : DD} (w : World) (h : DX base db d w) (hr : RolAt w rb db i) (hi : i < 3) (hfew : (fD d i).steps.length + 1 ≤ 4398046511104) :
    Calls Tryz.prog 43 #[.pointer (some ⟨rb, 0, none⟩)] w (StP base db (clrE d i 0) (clrD d i 0) w) := by
  have HX := Lib.hid h
  have HRX := Lib.hid hr
  have HKX : Hid (KT base w w) := KT.refl _ _
  have HI := Lib.hid hi
  have HRN := Lib.hid (rnone_any w hr)
  have HFEW := Lib.hid hfew
  have HAE : Hid (clrE d i 0 = if doE d i (fD d i) (.cut 0) = 0 then syncE (doD d i (fD d i) (.cut 0)) else doE d i (fD d i) (.cut 0)) := rfl
  have HAD : Hid (clrD d i 0 = if doE d i (fD d i) (.cut 0) = 0 then syncD (doD d i (fD d i) (.cut 0)) i (fD (doD d i (fD d i) (.cut 0)) i) else doD d i (fD d i) (.cut 0)) := rfl
  clear h hr hi hfew
  go_enter Tryz.func43, Tryz.ntmps43
  go_wp2_with fail
  refine HRN.out.mono ?_
  rintro e w' ⟨rfl, rfl⟩
  go_upto_region 3 with fail
  have HC0 : Hid (∀ w', Below w.heap.size w w' → w'.cell? ⟨rb, 0, none⟩ = some (.pointer (some ⟨db, 0, none⟩))) := fun w' hb => (HRX.out.below hb).c0
  have HC1 : Hid (∀ w', Below w.heap.size w w' → w'.cell? ⟨rb, 1, none⟩ = some (.int .i64 (i : Int))) := fun w' hb => (HRX.out.below hb).c1
  refine wp_region_eager_t (Below w.heap.size w) [0, 1, 2, 3, 4, 5, 6, 7] [(0, true), (1, true), (2, true), (3, true), (4, true), (5, true), (6, true), (7, true)] [8, 9] (by kernel_rfl) (by kernel_rfl) ?_ (eagerTOpen rfl ?_)
  · exact below_drew1 _ _
  repeat (first
    | (first | (apply wpEagerT_take; (· rfl); (· (intro w' hb'; go_simp; try with_reducible rfl)); (try simp only [Act.put, List.setIfInBounds_toArray, List.set_cons_zero, List.set_cons_succ]); (try refine eagerTOpen rfl ?_)) | (refine wpEagerT_skip (by rfl) ?_; (try simp only [Act.put, List.setIfInBounds_toArray, List.set_cons_zero, List.set_cons_succ]); (try refine eagerTOpen rfl ?_)))
    | (apply wpEagerT_take; (· rfl); (· (intro w' hb'; have hk' := (HC0.out) w' hb'; go_split_ands; go_simp; try with_reducible rfl)); (try simp only [Act.put, List.setIfInBounds_toArray, List.set_cons_zero, List.set_cons_succ]); (try refine eagerTOpen rfl ?_))
    | (apply wpEagerT_take; (· rfl); (· (intro w' hb'; have hk' := (HC1.out) w' hb'; go_split_ands; go_simp; try with_reducible rfl)); (try simp only [Act.put, List.setIfInBounds_toArray, List.set_cons_zero, List.set_cons_succ]); (try refine eagerTOpen rfl ?_)))
  refine eagerTEnd (tail2 rfl rfl ?_)
  clear HC0 HC1
  have HY := Lib.hid (HX.out.below (below_drew1 _ _))
  have HRY := Lib.hid (HRX.out.below (below_drew1 _ _))
  have HKY := Lib.hid (HKX.out.next (below_drew1 _ _))
  generalize w.drew = w2 at *
  clear HX HRX HKX
  have HAP : Hid (Calls Tryz.prog 87 #[.pointer (some ⟨db, 0, none⟩), .int .i64 (i : Int), .int .i64 0] w2 (StP base db (doE d i (fD d i) (.cut 0)) (doD d i (fD d i) (.cut 0)) w2)) := xcut w2 HY.out i HI.out 0 (Nat.zero_le _) HFEW.out
  generalize doE d i (fD d i) (.cut 0) = x at *
  generalize doD d i (fD d i) (.cut 0) = d1 at *
  go_wp2_with fail
  refine HAP.out.mono ?_
  rintro e w3 ⟨rfl, hd3, hk3⟩
  have HX := Lib.hid hd3
  have HKX := Lib.hid (HKY.out.trans hk3)
  have HRX := Lib.hid (HRY.out.kt hk3)
  clear hd3 hk3 HKY HRY HY HAP
  go_wp2_with fail
  refine noPanic_end ?_
  by_cases hx : x = 0
  · have z1 : (x != 0) = false := by simp [hx]
    rw [if_pos hx] at HAE HAD
    clear hx
    go_upto_region 6 with fail
    have HC0 : Hid (∀ w', Below w3.heap.size w3 w' → w'.cell? ⟨rb, 0, none⟩ = some (.pointer (some ⟨db, 0, none⟩))) := fun w' hb => (HRX.out.below hb).c0
    have HC1 : Hid (∀ w', Below w3.heap.size w3 w' → w'.cell? ⟨rb, 1, none⟩ = some (.int .i64 (i : Int))) := fun w' hb => (HRX.out.below hb).c1
    refine wp_region_eager_t (Below w3.heap.size w3) [0, 1, 2, 3, 4, 5, 6, 7] [(0, true), (1, true), (2, true), (3, true), (4, true), (5, true), (6, true), (7, true)] [8, 9] (by kernel_rfl) (by kernel_rfl) ?_ (eagerTOpen rfl ?_)
    · exact below_drew1 _ _
    repeat (first
      | (first | (apply wpEagerT_take; (· rfl); (· (intro w' hb'; go_simp; try with_reducible rfl)); (try simp only [Act.put, List.setIfInBounds_toArray, List.set_cons_zero, List.set_cons_succ]); (try refine eagerTOpen rfl ?_)) | (refine wpEagerT_skip (by rfl) ?_; (try simp only [Act.put, List.setIfInBounds_toArray, List.set_cons_zero, List.set_cons_succ]); (try refine eagerTOpen rfl ?_)))
      | (apply wpEagerT_take; (· rfl); (· (intro w' hb'; have hk' := (HC0.out) w' hb'; go_split_ands; go_simp; try with_reducible rfl)); (try simp only [Act.put, List.setIfInBounds_toArray, List.set_cons_zero, List.set_cons_succ]); (try refine eagerTOpen rfl ?_))
      | (apply wpEagerT_take; (· rfl); (· (intro w' hb'; have hk' := (HC1.out) w' hb'; go_split_ands; go_simp; try with_reducible rfl)); (try simp only [Act.put, List.setIfInBounds_toArray, List.set_cons_zero, List.set_cons_succ]); (try refine eagerTOpen rfl ?_)))
    refine eagerTEnd (tail2 rfl rfl ?_)
    clear HC0 HC1
    have HY := Lib.hid (HX.out.below (below_drew1 _ _))
    have HRY := Lib.hid (HRX.out.below (below_drew1 _ _))
    have HKY := Lib.hid (HKX.out.next (below_drew1 _ _))
    generalize w3.drew = w4 at *
    clear HX HRX HKX
    have HSY := Lib.hid (xsync w4 HY.out i HI.out)
    go_wp2_with fail
    refine HSY.out.mono ?_
    rintro e w5 ⟨rfl, hd5, hk5⟩
    have HD5 := Lib.hid hd5
    have HK5 := Lib.hid (HKY.out.trans hk5)
    clear hd5 hk5
    go_wp2_with fail
    refine noPanic_end ?_
    go_wp2_with fail
    go_ret
    exact ⟨by rw [HAE.out]; rfl, by rw [HAD.out]; exact HD5.out, HK5.out⟩
  · have z1 : (x != 0) = true := by simp [hx]
    rw [if_neg hx] at HAE HAD
    clear hx
    go_wp2_with fail
    go_ret
    exact ⟨by rw [HAE.out]; rfl, by rw [HAD.out]; exact HX.out, HKX.out⟩
end Go.Proofs.YtnejjfglkindjaaGreatDoor.Rol

namespace Go.Proofs.YtnejjfglkindjaaGreatDoor.Rol
open Go.RowKit Go.Mir Go.Mir.Parts Dk
open Frm (frame scan)
open Cut (Ls LsO)

def BodP (l : List UInt8) (w : World) (e : Ending) (w' : World) : Prop := ∃ p c, e = .returned (.slice p (scan l).1.length c) ∧ LsO w' w.heap.size (.slice p (scan l).1.length c) (scan l).1 ∧ Below w.heap.size w w'
set_option maxRecDepth 100000 in
set_option maxHeartbeats 1600000 in
theorem bodies_any {base db rb i : Nat} {d : DD} (w : World) (hE : Rdr.EType w) (h : DX base db d w) (hr : RolAt w rb db i) (hi : i < 3) :
    Calls Tryz.prog 70 #[.pointer (some ⟨rb, 0, none⟩)] w (BodP (fD d i).now w) := by
  have HX := Lib.hid h
  have HRX := Lib.hid hr
  have HKX : Hid (Below w.heap.size w w) := Below.refl _ _
  have HI := Lib.hid hi
  have HRN := Lib.hid (rnone_any w hr)
  have HE := Lib.hid hE
  have HLE := Lib.hid (h.le hi)
  clear h hr hi hE
  go_enter Tryz.func70, Tryz.ntmps70
  go_wp2_with fail
  refine HRN.out.mono ?_
  rintro e w' ⟨rfl, rfl⟩
  go_upto_region 3 with fail
  have HC0 : Hid (∀ w', Below w.heap.size w w' → w'.cell? ⟨rb, 0, none⟩ = some (.pointer (some ⟨db, 0, none⟩))) := fun w' hb => (HRX.out.below hb).c0
  have HC1 : Hid (∀ w', Below w.heap.size w w' → w'.cell? ⟨rb, 1, none⟩ = some (.int .i64 (i : Int))) := fun w' hb => (HRX.out.below hb).c1
  refine wp_region_eager [(0, true), (1, true), (2, true), (3, true), (4, true), (5, true), (6, true), (7, true), (8, false), (9, false), (10, true), (11, true), (12, true), (13, true), (14, true)] (by kernel_rfl) (by kernel_rfl) (eagerOpen rfl ?_)
  have hy0 : Below w.heap.size w w.drew := below_drew1 _ _
  repeat (first
    | (first | (apply wpEager_take; (· rfl); (· (intro w' hb'; go_simp; try with_reducible rfl)); (try simp only [Act.put, List.setIfInBounds_toArray, List.set_cons_zero, List.set_cons_succ]); (try refine eagerOpen rfl ?_)) | (refine wpEager_skip (by rfl) ?_; (try simp only [Act.put, List.setIfInBounds_toArray, List.set_cons_zero, List.set_cons_succ]); (try refine eagerOpen rfl ?_)) | (refine wpEager_off (by rfl) ?_; (try simp only [Act.put, List.setIfInBounds_toArray, List.set_cons_zero, List.set_cons_succ]); (try refine eagerOpen rfl ?_)))
    | (apply wpEager_take; (· rfl); (· (intro w' hb'; have hk' := (HC0.out) w' hb'; go_split_ands; go_simp; try with_reducible rfl)); (try simp only [Act.put, List.setIfInBounds_toArray, List.set_cons_zero, List.set_cons_succ]); (try refine eagerOpen rfl ?_))
    | (apply wpEager_take; (· rfl); (· (intro w' hb'; have hk' := (HC1.out) w' hb'; go_split_ands; go_simp; try with_reducible rfl)); (try simp only [Act.put, List.setIfInBounds_toArray, List.set_cons_zero, List.set_cons_succ]); (try refine eagerOpen rfl ?_)))
  (refine wpEager_op (by rfl) (fun K hK => ?_); go_simp; (refine (xread w.drew (HX.out.below hy0) i HI.out).mono ?_; rintro e w3 ⟨p3, c3, rfl, hs3, hb3⟩; have hy3 := hy0.trans (hb3.mono hy0.size); clear hb3); refine Shut.out hK _ _ (by assumption) ?_; clear hK K; (try simp only [Act.put, List.setIfInBounds_toArray, List.set_cons_zero, List.set_cons_succ]); (try refine eagerOpen rfl ?_))
  generalize (fD d i).now = L at *
  (refine wpEager_op (by rfl) (fun K hK => ?_); go_simp; (refine (Frm.scanO_any p3 _ c3 _ w3 (HE.out.below hy3 HE.out.lt) hs3 (Frm.bs_block hs3) (by have := HLE.out; omega)).mono ?_; rintro e w4 ⟨v, rfl, hl4, hb4⟩; obtain ⟨p4, c4, rfl, -⟩ := hl4.ls.sl; have HL4 := Lib.hid (Frm.LsO.low hl4 hy3.size); have hy4 := hy3.trans (hb4.mono hy3.size); clear hl4 hb4); refine Shut.out hK _ _ (by assumption) ?_; clear hK K; (try simp only [Act.put, List.setIfInBounds_toArray, List.set_cons_zero, List.set_cons_succ]); (try refine eagerOpen rfl ?_))
  repeat (first
    | (first | (apply wpEager_take; (· rfl); (· (intro w' hb'; go_simp; try with_reducible rfl)); (try simp only [Act.put, List.setIfInBounds_toArray, List.set_cons_zero, List.set_cons_succ]); (try refine eagerOpen rfl ?_)) | (refine wpEager_skip (by rfl) ?_; (try simp only [Act.put, List.setIfInBounds_toArray, List.set_cons_zero, List.set_cons_succ]); (try refine eagerOpen rfl ?_)) | (refine wpEager_off (by rfl) ?_; (try simp only [Act.put, List.setIfInBounds_toArray, List.set_cons_zero, List.set_cons_succ]); (try refine eagerOpen rfl ?_))))
  refine eagerEnd ?_
  have HB4 := Lib.hid hy4
  clear hy0 hy3 hy4 hs3 HC0 HC1
  go_wp2_with fail
  go_ret
  exact ⟨_, _, rfl, HL4.out, HB4.out⟩
set_option maxRecDepth 100000 in
set_option maxHeartbeats 1600000 in
theorem size_any {base db rb i : Nat} {d : DD} (w : World) (h : DX base db d w) (hr : RolAt w rb db i) (hi : i < 3) :
    Calls Tryz.prog 39 #[.pointer (some ⟨rb, 0, none⟩)] w fun e w' => e = .returned (.int .i64 ((fD d i).now.length : Int)) ∧ Below w.heap.size w w' := by
  have HX := Lib.hid h
  have HRX := Lib.hid hr
  have HI := Lib.hid hi
  have HRN := Lib.hid (rnone_any w hr)
  clear h hr hi
  go_enter Tryz.func39, Tryz.ntmps39
  go_wp2_with fail
  refine HRN.out.mono ?_
  rintro e w' ⟨rfl, rfl⟩
  go_upto_region 3 with fail
  have HC0 : Hid (∀ w', Below w.heap.size w w' → w'.cell? ⟨rb, 0, none⟩ = some (.pointer (some ⟨db, 0, none⟩))) := fun w' hb => (HRX.out.below hb).c0
  have HC1 : Hid (∀ w', Below w.heap.size w w' → w'.cell? ⟨rb, 1, none⟩ = some (.int .i64 (i : Int))) := fun w' hb => (HRX.out.below hb).c1
  refine wp_region_eager_t (Below w.heap.size w) [0, 1, 2, 3, 4, 5, 6, 7] [(0, true), (1, true), (2, true), (3, true), (4, true), (5, true), (6, true), (7, true)] [8, 9] (by kernel_rfl) (by kernel_rfl) ?_ (eagerTOpen rfl ?_)
  · exact below_drew1 _ _
  repeat (first
    | (first | (apply wpEagerT_take; (· rfl); (· (intro w' hb'; go_simp; try with_reducible rfl)); (try simp only [Act.put, List.setIfInBounds_toArray, List.set_cons_zero, List.set_cons_succ]); (try refine eagerTOpen rfl ?_)) | (refine wpEagerT_skip (by rfl) ?_; (try simp only [Act.put, List.setIfInBounds_toArray, List.set_cons_zero, List.set_cons_succ]); (try refine eagerTOpen rfl ?_)))
    | (apply wpEagerT_take; (· rfl); (· (intro w' hb'; have hk' := (HC0.out) w' hb'; go_split_ands; go_simp; try with_reducible rfl)); (try simp only [Act.put, List.setIfInBounds_toArray, List.set_cons_zero, List.set_cons_succ]); (try refine eagerTOpen rfl ?_))
    | (apply wpEagerT_take; (· rfl); (· (intro w' hb'; have hk' := (HC1.out) w' hb'; go_split_ands; go_simp; try with_reducible rfl)); (try simp only [Act.put, List.setIfInBounds_toArray, List.set_cons_zero, List.set_cons_succ]); (try refine eagerTOpen rfl ?_)))
  refine eagerTEnd (tail2 rfl rfl ?_)
  clear HC0 HC1
  have HY := Lib.hid (HX.out.below (below_drew1 _ _))
  have HKY : Hid (Below w.heap.size w w.drew) := below_drew1 _ _
  have HRD := Lib.hid (xsize w.drew HY.out i HI.out)
  go_wp2_with fail
  refine HRD.out.mono ?_
  rintro e w3 ⟨rfl, hb3⟩
  have HB3 := Lib.hid (HKY.out.trans (hb3.mono HKY.out.size))
  clear hb3
  go_wp2_with fail
  refine noPanic_end ?_
  go_wp2_with fail
  go_ret
  exact ⟨rfl, HB3.out⟩
set_option maxRecDepth 100000 in
set_option maxHeartbeats 3200000 in
theorem mend_any {base db rb i : Nat} {d : DD} (w : World) (hE : Rdr.EType w) (h : DX base db d w) (hr : RolAt w rb db i) (hi : i < 3) (hfew : (fD d i).steps.length + 1 ≤ 4398046511104) :
    Calls Tryz.prog 67 #[.pointer (some ⟨rb, 0, none⟩)] w (StP base db (mendE d i) (mendD d i) w) := by
  have HX := Lib.hid h
  have HRX := Lib.hid hr
  have HKX : Hid (KT base w w) := KT.refl _ _
  have HI := Lib.hid hi
  have HE := Lib.hid hE
  have HLE := Lib.hid (h.le hi)
  have HFEW := Lib.hid hfew
  have HSL := Lib.hid (scan_le (fD d i).now)
  have HME : Hid (mendE d i = if (scan (fD d i).now).2 < (fD d i).now.length then (if doE d i (fD d i) (.cut (scan (fD d i).now).2) = 0 then endE (doD d i (fD d i) (.cut (scan (fD d i).now).2)) i else doE d i (fD d i) (.cut (scan (fD d i).now).2)) else endE d i) := rfl
  have HMD : Hid (mendD d i = if (scan (fD d i).now).2 < (fD d i).now.length then (if doE d i (fD d i) (.cut (scan (fD d i).now).2) = 0 then endD (doD d i (fD d i) (.cut (scan (fD d i).now).2)) i else doD d i (fD d i) (.cut (scan (fD d i).now).2)) else endD d i) := rfl
  have HCUT := fun w (h : DX base db d w) => xcut w h i hi (scan (fD d i).now).2 (scan_le _) hfew
  have HCT := Lib.hid HCUT
  clear h hr hi hE hfew HCUT
  obtain ⟨L, hL⟩ : ∃ L, (fD d i).now = L := ⟨_, rfl⟩
  rw [hL] at HLE HSL HME HMD HCT
  have HLL := Lib.hid hL
  obtain ⟨G, hG⟩ : ∃ G, (scan L).2 = G := ⟨_, rfl⟩
  rw [hG] at HSL HME HMD HCT
  have HGG := Lib.hid hG
  clear hL hG
  have hlx := HLE.out
  have hsx := HSL.out
  go_enter Tryz.func67, Tryz.ntmps67
  go_upto_region 1 with fail
  have HC0 : Hid (∀ w', Below w.heap.size w w' → w'.cell? ⟨rb, 0, none⟩ = some (.pointer (some ⟨db, 0, none⟩))) := fun w' hb => (HRX.out.below hb).c0
  have HC1 : Hid (∀ w', Below w.heap.size w w' → w'.cell? ⟨rb, 1, none⟩ = some (.int .i64 (i : Int))) := fun w' hb => (HRX.out.below hb).c1
  refine wp_region_eager_t (Below w.heap.size w) [0, 1, 2, 3, 4, 5, 6, 7] [(0, true), (1, true), (2, true), (3, true), (4, true), (5, true), (6, true), (7, true)] [8, 9] (by kernel_rfl) (by kernel_rfl) ?_ (eagerTOpen rfl ?_)
  · exact below_drew1 _ _
  repeat (first
    | (first | (apply wpEagerT_take; (· rfl); (· (intro w' hb'; go_simp; try with_reducible rfl)); (try simp only [Act.put, List.setIfInBounds_toArray, List.set_cons_zero, List.set_cons_succ]); (try refine eagerTOpen rfl ?_)) | (refine wpEagerT_skip (by rfl) ?_; (try simp only [Act.put, List.setIfInBounds_toArray, List.set_cons_zero, List.set_cons_succ]); (try refine eagerTOpen rfl ?_)))
    | (apply wpEagerT_take; (· rfl); (· (intro w' hb'; have hk' := (HC0.out) w' hb'; go_split_ands; go_simp; try with_reducible rfl)); (try simp only [Act.put, List.setIfInBounds_toArray, List.set_cons_zero, List.set_cons_succ]); (try refine eagerTOpen rfl ?_))
    | (apply wpEagerT_take; (· rfl); (· (intro w' hb'; have hk' := (HC1.out) w' hb'; go_split_ands; go_simp; try with_reducible rfl)); (try simp only [Act.put, List.setIfInBounds_toArray, List.set_cons_zero, List.set_cons_succ]); (try refine eagerTOpen rfl ?_)))
  refine eagerTEnd (tail2 rfl rfl ?_)
  clear HC0 HC1
  have HB1 := Lib.hid (below_drew1 w.heap.size w)
  skip
  have HY := Lib.hid (HX.out.below (below_drew1 _ _))
  have HRY := Lib.hid (HRX.out.below (below_drew1 _ _))
  have HKY := Lib.hid (HKX.out.next (below_drew1 _ _))
  generalize w.drew = w1 at *
  clear HX HRX HKX
  have hrd := xread w1 HY.out i HI.out
  rw [HLL.out] at hrd
  have HRD := Lib.hid hrd
  clear hrd
  go_wp2_with fail
  refine HRD.out.mono ?_
  rintro e w3 ⟨p3, c3, rfl, hs3, hb3⟩
  have HX := Lib.hid (HY.out.below hb3)
  have HRX := Lib.hid (HRY.out.below hb3)
  have HKX := Lib.hid (HKY.out.next hb3)
  have HE3 := Lib.hid (HE.out.below (HB1.out.trans (hb3.mono HB1.out.size)) HE.out.lt)
  have hsc := Frm.scanO_any p3 _ c3 _ w3 HE3.out hs3 (Frm.bs_block hs3) (by omega)
  unfold Frm.ScanO at hsc
  rw [HGG.out] at hsc
  have HSC := Lib.hid hsc
  clear HY HRY HKY hsc hs3 hb3 HRD HE3 HB1
  go_wp2_with fail
  refine noPanic_end ?_
  go_wp2_with fail
  refine HSC.out.mono ?_
  rintro e w4 ⟨v4, rfl, hl4, hb4⟩
  have HX4 := Lib.hid (HX.out.below hb4)
  have HRX4 := Lib.hid (HRX.out.below hb4)
  have HKX4 := Lib.hid (HKX.out.next hb4)
  clear HX HRX HKX hl4 hb4 HSC
  have HX := HX4
  have HRX := HRX4
  have HKX := HKX4
  clear HX4 HRX4 HKX4
  by_cases hg : G < L.length
  · have z3 : decide ((G : Int) < (L.length : Int)) = true := decide_eq_true (by omega)
    have z4 : decide (G < L.length) = true := decide_eq_true hg
    rw [if_pos hg] at HME HMD
    clear hg
    go_upto_region 4 with fail
    have HC0 : Hid (∀ w', Below w4.heap.size w4 w' → w'.cell? ⟨rb, 0, none⟩ = some (.pointer (some ⟨db, 0, none⟩))) := fun w' hb => (HRX.out.below hb).c0
    have HC1 : Hid (∀ w', Below w4.heap.size w4 w' → w'.cell? ⟨rb, 1, none⟩ = some (.int .i64 (i : Int))) := fun w' hb => (HRX.out.below hb).c1
    refine wp_region_eager_t (Below w4.heap.size w4) [0, 1, 2, 3, 4, 5, 6, 7, 8] [(0, true), (1, true), (2, true), (3, true), (4, true), (5, true), (6, true), (7, true), (8, true)] [9, 10] (by kernel_rfl) (by kernel_rfl) ?_ (eagerTOpen rfl ?_)
    · exact below_drew1 _ _
    repeat (first
      | (first | (apply wpEagerT_take; (· rfl); (· (intro w' hb'; go_simp; try with_reducible rfl)); (try simp only [Act.put, List.setIfInBounds_toArray, List.set_cons_zero, List.set_cons_succ]); (try refine eagerTOpen rfl ?_)) | (refine wpEagerT_skip (by rfl) ?_; (try simp only [Act.put, List.setIfInBounds_toArray, List.set_cons_zero, List.set_cons_succ]); (try refine eagerTOpen rfl ?_)))
      | (apply wpEagerT_take; (· rfl); (· (intro w' hb'; have hk' := (HC0.out) w' hb'; go_split_ands; go_simp; try with_reducible rfl)); (try simp only [Act.put, List.setIfInBounds_toArray, List.set_cons_zero, List.set_cons_succ]); (try refine eagerTOpen rfl ?_))
      | (apply wpEagerT_take; (· rfl); (· (intro w' hb'; have hk' := (HC1.out) w' hb'; go_split_ands; go_simp; try with_reducible rfl)); (try simp only [Act.put, List.setIfInBounds_toArray, List.set_cons_zero, List.set_cons_succ]); (try refine eagerTOpen rfl ?_)))
    refine eagerTEnd (tail2 rfl rfl ?_)
    clear HC0 HC1
    have HY := Lib.hid (HX.out.below (below_drew1 _ _))
    have HRY := Lib.hid (HRX.out.below (below_drew1 _ _))
    have HKY := Lib.hid (HKX.out.next (below_drew1 _ _))
    generalize w4.drew = w5 at *
    clear HX HRX HKX
    have HCC := Lib.hid (HCT.out w5 HY.out)
    generalize doE d i (fD d i) (.cut G) = x at *
    generalize doD d i (fD d i) (.cut G) = d1 at *
    go_wp2_with fail
    refine HCC.out.mono ?_
    rintro e w6 ⟨rfl, hd6, hk6⟩
    have HX := Lib.hid hd6
    have HKX := Lib.hid (HKY.out.trans hk6)
    have HRX := Lib.hid (HRY.out.kt hk6)
    clear hd6 hk6 HKY HRY HY HCC HCT
    by_cases hx : x = 0
    · have z1 : (x != 0) = false := by simp [hx]
      rw [if_pos hx] at HME HMD
      clear hx
      go_wp2_with fail
      refine noPanic_end ?_
      skip
      go_upto_region 7 with fail
      have HC0 : Hid (∀ w', Below w6.heap.size w6 w' → w'.cell? ⟨rb, 0, none⟩ = some (.pointer (some ⟨db, 0, none⟩))) := fun w' hb => (HRX.out.below hb).c0
      have HC1 : Hid (∀ w', Below w6.heap.size w6 w' → w'.cell? ⟨rb, 1, none⟩ = some (.int .i64 (i : Int))) := fun w' hb => (HRX.out.below hb).c1
      refine wp_region_eager_t (Below w6.heap.size w6) [0, 1, 2, 3, 4, 5, 6, 7] [(0, true), (1, true), (2, true), (3, true), (4, true), (5, true), (6, true), (7, true)] [8, 9] (by kernel_rfl) (by kernel_rfl) ?_ (eagerTOpen rfl ?_)
      · exact below_drew1 _ _
      repeat (first
        | (first | (apply wpEagerT_take; (· rfl); (· (intro w' hb'; go_simp; try with_reducible rfl)); (try simp only [Act.put, List.setIfInBounds_toArray, List.set_cons_zero, List.set_cons_succ]); (try refine eagerTOpen rfl ?_)) | (refine wpEagerT_skip (by rfl) ?_; (try simp only [Act.put, List.setIfInBounds_toArray, List.set_cons_zero, List.set_cons_succ]); (try refine eagerTOpen rfl ?_)))
        | (apply wpEagerT_take; (· rfl); (· (intro w' hb'; have hk' := (HC0.out) w' hb'; go_split_ands; go_simp; try with_reducible rfl)); (try simp only [Act.put, List.setIfInBounds_toArray, List.set_cons_zero, List.set_cons_succ]); (try refine eagerTOpen rfl ?_))
        | (apply wpEagerT_take; (· rfl); (· (intro w' hb'; have hk' := (HC1.out) w' hb'; go_split_ands; go_simp; try with_reducible rfl)); (try simp only [Act.put, List.setIfInBounds_toArray, List.set_cons_zero, List.set_cons_succ]); (try refine eagerTOpen rfl ?_)))
      refine eagerTEnd (tail2 rfl rfl ?_)
      clear HC0 HC1
      have HY := Lib.hid (HX.out.below (below_drew1 _ _))
      have HRY := Lib.hid (HRX.out.below (below_drew1 _ _))
      have HKY := Lib.hid (HKX.out.next (below_drew1 _ _))
      generalize w6.drew = w7 at *
      clear HX HRX HKX
      have HUN := Lib.hid (xunits w7 HY.out i HI.out)
      have HEE : Hid (endE d1 i = if unitsAll (fD d1 i).steps = 0 then 0 else syncE d1) := rfl
      have HED : Hid (endD d1 i = if unitsAll (fD d1 i).steps = 0 then d1 else syncD d1 i (fD d1 i)) := rfl
      obtain ⟨un, hun⟩ : ∃ un, unitsAll (fD d1 i).steps = un := ⟨_, rfl⟩
      rw [hun] at HUN HEE HED
      clear hun
      go_wp2_with fail
      refine HUN.out.mono ?_
      rintro e w8 ⟨rfl, hb8⟩
      have HX := Lib.hid (HY.out.below hb8)
      have HRX := Lib.hid (HRY.out.below hb8)
      have HKX := Lib.hid (HKY.out.next hb8)
      clear hb8 HY HRY HKY HUN
      by_cases hu : un = 0
      · have z1 : ((un : Int) == 0) = true := by rw [beq_iff_eq]; omega
        have z2 : (un == 0) = true := by rw [beq_iff_eq]; omega
        rw [if_pos hu] at HEE HED
        clear hu
        go_wp2_with fail
        refine noPanic_end ?_
        go_wp2_with fail
        go_ret
        exact ⟨by rw [HME.out, HEE.out]; rfl, by rw [HMD.out, HED.out]; exact HX.out, HKX.out⟩
      · have z1 : ((un : Int) == 0) = false := by rw [beq_eq_false_iff_ne]; omega
        have z2 : (un == 0) = false := by rw [beq_eq_false_iff_ne]; omega
        rw [if_neg hu] at HEE HED
        clear hu
        go_wp2_with fail
        refine noPanic_end ?_
        go_upto_region 9 with fail
        have HC0 : Hid (∀ w', Below w8.heap.size w8 w' → w'.cell? ⟨rb, 0, none⟩ = some (.pointer (some ⟨db, 0, none⟩))) := fun w' hb => (HRX.out.below hb).c0
        have HC1 : Hid (∀ w', Below w8.heap.size w8 w' → w'.cell? ⟨rb, 1, none⟩ = some (.int .i64 (i : Int))) := fun w' hb => (HRX.out.below hb).c1
        refine wp_region_eager_t (Below w8.heap.size w8) [0, 1, 2, 3, 4, 5, 6, 7] [(0, true), (1, true), (2, true), (3, true), (4, true), (5, true), (6, true), (7, true)] [8, 9] (by kernel_rfl) (by kernel_rfl) ?_ (eagerTOpen rfl ?_)
        · exact below_drew1 _ _
        repeat (first
          | (first | (apply wpEagerT_take; (· rfl); (· (intro w' hb'; go_simp; try with_reducible rfl)); (try simp only [Act.put, List.setIfInBounds_toArray, List.set_cons_zero, List.set_cons_succ]); (try refine eagerTOpen rfl ?_)) | (refine wpEagerT_skip (by rfl) ?_; (try simp only [Act.put, List.setIfInBounds_toArray, List.set_cons_zero, List.set_cons_succ]); (try refine eagerTOpen rfl ?_)))
          | (apply wpEagerT_take; (· rfl); (· (intro w' hb'; have hk' := (HC0.out) w' hb'; go_split_ands; go_simp; try with_reducible rfl)); (try simp only [Act.put, List.setIfInBounds_toArray, List.set_cons_zero, List.set_cons_succ]); (try refine eagerTOpen rfl ?_))
          | (apply wpEagerT_take; (· rfl); (· (intro w' hb'; have hk' := (HC1.out) w' hb'; go_split_ands; go_simp; try with_reducible rfl)); (try simp only [Act.put, List.setIfInBounds_toArray, List.set_cons_zero, List.set_cons_succ]); (try refine eagerTOpen rfl ?_)))
        refine eagerTEnd (tail2 rfl rfl ?_)
        clear HC0 HC1
        have HY := Lib.hid (HX.out.below (below_drew1 _ _))
        have HRY := Lib.hid (HRX.out.below (below_drew1 _ _))
        have HKY := Lib.hid (HKX.out.next (below_drew1 _ _))
        generalize w8.drew = w9 at *
        clear HX HRX HKX
        have HSY := Lib.hid (xsync w9 HY.out i HI.out)
        go_wp2_with fail
        refine HSY.out.mono ?_
        rintro e w10 ⟨rfl, hd10, hk10⟩
        have HD10 := Lib.hid hd10
        have HK10 := Lib.hid (HKY.out.trans hk10)
        clear hd10 hk10
        go_wp2_with fail
        refine noPanic_end ?_
        go_wp2_with fail
        go_ret
        exact ⟨by rw [HME.out, HEE.out]; rfl, by rw [HMD.out, HED.out]; exact HD10.out, HK10.out⟩
    · have z1 : (x != 0) = true := by simp [hx]
      rw [if_neg hx] at HME HMD
      clear hx
      go_wp2_with fail
      refine noPanic_end ?_
      go_wp2_with fail
      go_ret
      exact ⟨by rw [HME.out]; rfl, by rw [HMD.out]; exact HX.out, HKX.out⟩
  · have z3 : decide ((G : Int) < (L.length : Int)) = false := decide_eq_false (by omega)
    have z4 : decide (G < L.length) = false := decide_eq_false hg
    rw [if_neg hg] at HME HMD
    clear hg HCT
    skip
    go_upto_region 7 with fail
    have HC0 : Hid (∀ w', Below w4.heap.size w4 w' → w'.cell? ⟨rb, 0, none⟩ = some (.pointer (some ⟨db, 0, none⟩))) := fun w' hb => (HRX.out.below hb).c0
    have HC1 : Hid (∀ w', Below w4.heap.size w4 w' → w'.cell? ⟨rb, 1, none⟩ = some (.int .i64 (i : Int))) := fun w' hb => (HRX.out.below hb).c1
    refine wp_region_eager_t (Below w4.heap.size w4) [0, 1, 2, 3, 4, 5, 6, 7] [(0, true), (1, true), (2, true), (3, true), (4, true), (5, true), (6, true), (7, true)] [8, 9] (by kernel_rfl) (by kernel_rfl) ?_ (eagerTOpen rfl ?_)
    · exact below_drew1 _ _
    repeat (first
      | (first | (apply wpEagerT_take; (· rfl); (· (intro w' hb'; go_simp; try with_reducible rfl)); (try simp only [Act.put, List.setIfInBounds_toArray, List.set_cons_zero, List.set_cons_succ]); (try refine eagerTOpen rfl ?_)) | (refine wpEagerT_skip (by rfl) ?_; (try simp only [Act.put, List.setIfInBounds_toArray, List.set_cons_zero, List.set_cons_succ]); (try refine eagerTOpen rfl ?_)))
      | (apply wpEagerT_take; (· rfl); (· (intro w' hb'; have hk' := (HC0.out) w' hb'; go_split_ands; go_simp; try with_reducible rfl)); (try simp only [Act.put, List.setIfInBounds_toArray, List.set_cons_zero, List.set_cons_succ]); (try refine eagerTOpen rfl ?_))
      | (apply wpEagerT_take; (· rfl); (· (intro w' hb'; have hk' := (HC1.out) w' hb'; go_split_ands; go_simp; try with_reducible rfl)); (try simp only [Act.put, List.setIfInBounds_toArray, List.set_cons_zero, List.set_cons_succ]); (try refine eagerTOpen rfl ?_)))
    refine eagerTEnd (tail2 rfl rfl ?_)
    clear HC0 HC1
    have HY := Lib.hid (HX.out.below (below_drew1 _ _))
    have HRY := Lib.hid (HRX.out.below (below_drew1 _ _))
    have HKY := Lib.hid (HKX.out.next (below_drew1 _ _))
    generalize w4.drew = w7 at *
    clear HX HRX HKX
    have HUN := Lib.hid (xunits w7 HY.out i HI.out)
    have HEE : Hid (endE d i = if unitsAll (fD d i).steps = 0 then 0 else syncE d) := rfl
    have HED : Hid (endD d i = if unitsAll (fD d i).steps = 0 then d else syncD d i (fD d i)) := rfl
    obtain ⟨un, hun⟩ : ∃ un, unitsAll (fD d i).steps = un := ⟨_, rfl⟩
    rw [hun] at HUN HEE HED
    clear hun
    go_wp2_with fail
    refine HUN.out.mono ?_
    rintro e w8 ⟨rfl, hb8⟩
    have HX := Lib.hid (HY.out.below hb8)
    have HRX := Lib.hid (HRY.out.below hb8)
    have HKX := Lib.hid (HKY.out.next hb8)
    clear hb8 HY HRY HKY HUN
    by_cases hu : un = 0
    · have z1 : ((un : Int) == 0) = true := by rw [beq_iff_eq]; omega
      have z2 : (un == 0) = true := by rw [beq_iff_eq]; omega
      rw [if_pos hu] at HEE HED
      clear hu
      go_wp2_with fail
      refine noPanic_end ?_
      go_wp2_with fail
      go_ret
      exact ⟨by rw [HME.out, HEE.out]; rfl, by rw [HMD.out, HED.out]; exact HX.out, HKX.out⟩
    · have z1 : ((un : Int) == 0) = false := by rw [beq_eq_false_iff_ne]; omega
      have z2 : (un == 0) = false := by rw [beq_eq_false_iff_ne]; omega
      rw [if_neg hu] at HEE HED
      clear hu
      go_wp2_with fail
      refine noPanic_end ?_
      go_upto_region 9 with fail
      have HC0 : Hid (∀ w', Below w8.heap.size w8 w' → w'.cell? ⟨rb, 0, none⟩ = some (.pointer (some ⟨db, 0, none⟩))) := fun w' hb => (HRX.out.below hb).c0
      have HC1 : Hid (∀ w', Below w8.heap.size w8 w' → w'.cell? ⟨rb, 1, none⟩ = some (.int .i64 (i : Int))) := fun w' hb => (HRX.out.below hb).c1
      refine wp_region_eager_t (Below w8.heap.size w8) [0, 1, 2, 3, 4, 5, 6, 7] [(0, true), (1, true), (2, true), (3, true), (4, true), (5, true), (6, true), (7, true)] [8, 9] (by kernel_rfl) (by kernel_rfl) ?_ (eagerTOpen rfl ?_)
      · exact below_drew1 _ _
      repeat (first
        | (first | (apply wpEagerT_take; (· rfl); (· (intro w' hb'; go_simp; try with_reducible rfl)); (try simp only [Act.put, List.setIfInBounds_toArray, List.set_cons_zero, List.set_cons_succ]); (try refine eagerTOpen rfl ?_)) | (refine wpEagerT_skip (by rfl) ?_; (try simp only [Act.put, List.setIfInBounds_toArray, List.set_cons_zero, List.set_cons_succ]); (try refine eagerTOpen rfl ?_)))
        | (apply wpEagerT_take; (· rfl); (· (intro w' hb'; have hk' := (HC0.out) w' hb'; go_split_ands; go_simp; try with_reducible rfl)); (try simp only [Act.put, List.setIfInBounds_toArray, List.set_cons_zero, List.set_cons_succ]); (try refine eagerTOpen rfl ?_))
        | (apply wpEagerT_take; (· rfl); (· (intro w' hb'; have hk' := (HC1.out) w' hb'; go_split_ands; go_simp; try with_reducible rfl)); (try simp only [Act.put, List.setIfInBounds_toArray, List.set_cons_zero, List.set_cons_succ]); (try refine eagerTOpen rfl ?_)))
      refine eagerTEnd (tail2 rfl rfl ?_)
      clear HC0 HC1
      have HY := Lib.hid (HX.out.below (below_drew1 _ _))
      have HRY := Lib.hid (HRX.out.below (below_drew1 _ _))
      have HKY := Lib.hid (HKX.out.next (below_drew1 _ _))
      generalize w8.drew = w9 at *
      clear HX HRX HKX
      have HSY := Lib.hid (xsync w9 HY.out i HI.out)
      go_wp2_with fail
      refine HSY.out.mono ?_
      rintro e w10 ⟨rfl, hd10, hk10⟩
      have HD10 := Lib.hid hd10
      have HK10 := Lib.hid (HKY.out.trans hk10)
      clear hd10 hk10
      go_wp2_with fail
      refine noPanic_end ?_
      go_wp2_with fail
      go_ret
      exact ⟨by rw [HME.out, HEE.out]; rfl, by rw [HMD.out, HED.out]; exact HD10.out, HK10.out⟩
/-! ### Open -/
def opnE (d : DD) (i : Nat) : Int := if d.down = true then 18 else mendE d i
def opnD (d : DD) (i : Nat) : DD := if d.down = true then d else mendD d i
structure OpnP (base db : Nat) (d : DD) (i : Nat) (w : World) (e : Ending) (w' : World) : Prop where
  dx : DX base db (opnD d i) w'
  kt : KT base w w'
  say : (opnE d i = 0 ∧ ∃ rb, e = .returned (.tuple #[.pointer (some ⟨rb, 0, none⟩), .int .i64 0]) ∧ RolAt w' rb db i) ∨ (opnE d i ≠ 0 ∧ e = .returned (.tuple #[.pointer none, .int .i64 (opnE d i)]))
theorem xroom {base db : Nat} {d : DD} (w : World) (h : DX base db d w) : Calls Tryz.prog 64 #[.pointer (some ⟨db, 0, none⟩)] w fun e w' => e = .returned (.int .i64 (d.room : Int)) ∧ w = w' := by
  obtain ⟨h0, vs, h1⟩ := h
  exact room_any w h1
theorem xdown {base db : Nat} {d : DD} (w : World) (h : DX base db d w) : Calls Tryz.prog 19 #[.pointer (some ⟨db, 0, none⟩)] w fun e w' => e = .returned (.bool d.down) ∧ w = w' := by
  obtain ⟨h0, vs, h1⟩ := h
  exact down_any w h1
theorem open_bad {base db : Nat} {d : DD} (w : World) (h : DX base db d w) (i : Int) (hi : i < 0 ∨ 3 ≤ i) :
    Calls Tryz.prog 34 #[.pointer (some ⟨db, 0, none⟩), .int .i64 i] w fun e w' => e = .returned (.tuple #[.pointer none, .int .i64 1]) ∧ w = w' := by
  have HRM := Lib.hid (xroom w h)
  have hr := h.room.1
  have e1 : ((d.room : Int) == 0) = false := by rw [beq_eq_false_iff_ne]; omega
  have e2 : (d.room == 0) = false := by rw [beq_eq_false_iff_ne]; omega
  clear h
  by_cases h0 : i < 0
  · have d1 : decide (i < 0) = true := decide_eq_true h0
    clear hi h0
    go_enter Tryz.func34, Tryz.ntmps34
    go_wp2_with fail
    refine HRM.out.mono ?_
    rintro e w' ⟨rfl, rfl⟩
    go_wp2_with fail
    go_ret2
    exact ⟨rfl, rfl⟩
  · have d1 : decide (i < 0) = false := decide_eq_false h0
    have d2 : decide ((3 : Int) ≤ i) = true := decide_eq_true (by omega)
    clear hi h0
    go_enter Tryz.func34, Tryz.ntmps34
    go_wp2_with fail
    refine HRM.out.mono ?_
    rintro e w' ⟨rfl, rfl⟩
    go_wp2_with fail
    go_ret2
    exact ⟨rfl, rfl⟩
theorem built_rol (db i : Nat) : Tryz.prog.built 136 [(0, .pointer (some ⟨db, 0, none⟩)), (1, .int .i64 (i : Int))] = some (rolA db i) := by kernel_rfl
set_option maxRecDepth 100000 in
set_option maxHeartbeats 1600000 in
theorem open_any {base db i : Nat} {d : DD} (w : World) (hE : Rdr.EType w) (h : DX base db d w) (hi : i < 3) (hfew : (fD d i).steps.length + 1 ≤ 4398046511104) :
    Calls Tryz.prog 34 #[.pointer (some ⟨db, 0, none⟩), .int .i64 (i : Int)] w (OpnP base db d i w) := by
  have HRM := Lib.hid (xroom w h)
  have HDN := Lib.hid (xdown w h)
  have hr := h.room.1
  have e1 : ((d.room : Int) == 0) = false := by rw [beq_eq_false_iff_ne]; omega
  have e2 : (d.room == 0) = false := by rw [beq_eq_false_iff_ne]; omega
  have d1 : decide ((i : Int) < 0) = false := decide_eq_false (by omega)
  have d2 : decide ((3 : Int) ≤ (i : Int)) = false := decide_eq_false (by omega)
  have d2b : decide (3 ≤ i) = false := decide_eq_false (by omega)
  have H := Lib.hid h
  have HI := Lib.hid hi
  have HE := Lib.hid hE
  have HFEW := Lib.hid hfew
  clear h hi hE hfew
  obtain ⟨dn, hdn⟩ : ∃ dn, d.down = dn := ⟨_, rfl⟩
  rw [hdn] at HDN
  cases dn with
  | true =>
    have HOE : Hid (opnE d i = 18) := by show _ = _; unfold opnE; rw [if_pos hdn]
    have HOD : Hid (opnD d i = d) := by show _ = _; unfold opnD; rw [if_pos hdn]
    clear hdn
    go_enter Tryz.func34, Tryz.ntmps34
    go_wp2_with fail
    refine HRM.out.mono ?_
    rintro e w' ⟨rfl, rfl⟩
    go_wp2_with fail
    refine HDN.out.mono ?_
    rintro e w' ⟨rfl, rfl⟩
    go_wp2_with fail
    go_ret2
    exact ⟨by rw [HOD.out]; exact H.out, KT.refl _ _, .inr ⟨by rw [HOE.out]; decide, by rw [HOE.out]; rfl⟩⟩
  | false =>
    have HOE : Hid (opnE d i = mendE d i) := by show _ = _; unfold opnE; rw [if_neg (by rw [hdn]; decide)]
    have HOD : Hid (opnD d i = mendD d i) := by show _ = _; unfold opnD; rw [if_neg (by rw [hdn]; decide)]
    have HB1 : Hid (Below w.heap.size w (w.alloc (.cells (rolA db i) 136))) := Below.allocs _ _
    have HR1 : Hid (RolAt (w.alloc (.cells (rolA db i) 136)) w.heap.size db i) := heap_alloc_last _ _
    have HME := Lib.hid (mend_any _ (HE.out.below HB1.out HE.out.lt) (H.out.below HB1.out) HR1.out HI.out HFEW.out)
    clear hdn
    rw [← HOE.out, ← HOD.out] at HME
    clear HOE HOD
    generalize hoe : opnE d i = x at *
    have HOE := Lib.hid hoe
    clear hoe
    go_enter Tryz.func34, Tryz.ntmps34
    go_wp2_with fail
    refine HRM.out.mono ?_
    rintro e w' ⟨rfl, rfl⟩
    go_wp2_with fail
    refine HDN.out.mono ?_
    rintro e w' ⟨rfl, rfl⟩
    go_upto_region 8 with (refine Rdr.wpList_build rfl 136 _ rfl [(0, .pointer (some ⟨db, 0, none⟩)), (1, .int .i64 (i : Int))] rfl _ (built_rol _ _) ?_)
    generalize w.alloc (.cells (rolA db i) 136) = w1 at *
    go_wp2_with fail
    refine HME.out.mono ?_
    rintro e w2 ⟨rfl, hd2, hk2⟩
    have HD2 := Lib.hid hd2
    have HR2 := Lib.hid (HR1.out.kt hk2)
    have HK2 : Hid (KT base w w2) := (KT.of_below HB1.out).trans hk2
    clear hd2 hk2 HME
    by_cases hx : x = 0
    · have z1 : (x != 0) = false := by simp [hx]
      have HX0 := Lib.hid hx
      clear hx
      go_wp2_with fail
      go_ret2
      exact ⟨HD2.out, HK2.out, .inl ⟨HOE.out.trans HX0.out, _, rfl, HR2.out⟩⟩
    · have z1 : (x != 0) = true := by simp [hx]
      have HX0 : Hid (x ≠ 0) := hx
      clear hx
      go_wp2_with fail
      go_ret2
      exact ⟨HD2.out, HK2.out, .inr ⟨by rw [HOE.out]; exact HX0.out, by rw [HOE.out]; rfl⟩⟩
end Go.Proofs.YtnejjfglkindjaaGreatDoor.Rol

namespace Go.Proofs.YtnejjfglkindjaaGreatDoor.Vlt
open Go.RowKit Go.Mir Go.Mir.Parts Dk Rol Wr Slt Cut
open Frm (frame scan)

structure VS where
  last : Nat
  some : Bool
  body : List UInt8
  after : List (List UInt8)
def VS.zero : VS := ⟨0, false, [], []⟩
def stepV (v : VS) (b : List UInt8) : Option VS :=
  if b.length < 9 then none else if Rdr.beN (b.take 8) ≤ v.last then some v else if Rdr.beN (b.take 8) = v.last + 1 then some ⟨Rdr.beN (b.take 8), v.some, v.body, v.after ++ [b.drop 8]⟩ else none
def runV : VS → List (List UInt8) → Option VS
  | v, [] => some v
  | v, b :: r => (stepV v b).bind fun v' => runV v' r
def startV (s : SS) : Option VS := if s.turn = 0 then some VS.zero else if s.body.length < 8 then none else some ⟨Rdr.beN (s.body.take 8), true, s.body.drop 8, []⟩
def fillV (s : SS) (bs : List (List UInt8)) : Option VS := (startV s).bind fun v => runV v bs
theorem runV_snoc : ∀ (l : List (List UInt8)) (v : VS) (b : List UInt8), runV v (l ++ [b]) = (runV v l).bind fun v' => stepV v' b
  | [], v, b => by simp [runV]
  | x :: l, v, b => by
    rw [List.cons_append, runV, runV]
    cases stepV v x with
    | none => rfl
    | some v' => simp only [Option.bind_some]; exact runV_snoc l v' b
theorem runV_none : ∀ (l r : List (List UInt8)) (v : VS), runV v l = none → runV v (l ++ r) = none
  | [], r, v, h => by cases h
  | x :: l, r, v, h => by
    rw [runV] at h
    rw [List.cons_append, runV]
    cases hs : stepV v x with
    | none => rfl
    | some v' =>
      rw [hs] at h
      exact runV_none l r v' h
/-- the row of a vault -/
def vA (rb sb : Nat) (v : VS) (pb : Option Addr) (cb : Nat) (pa : Option Addr) (ca : Nat) : Array Value := #[.pointer (some ⟨rb, 0, none⟩), .pointer (some ⟨sb, 0, none⟩), .int .u64 (v.last : Int), .bool v.some, .slice pb v.body.length cb, .slice pa v.after.length ca]
theorem built_v (rb sb : Nat) : Tryz.prog.built 33 [(0, .pointer (some ⟨rb, 0, none⟩)), (1, .pointer (some ⟨sb, 0, none⟩))] = some (vA rb sb VS.zero none 0 none 0) := by kernel_rfl
theorem infoV (n : Nat) (h : n = 6) : (Tryz.prog.info? 33).map (·.size) = some n := by subst h; kernel_rfl
theorem vA_cells {w : World} {vb rb sb : Nat} {v : VS} {pb pa : Option Addr} {cb ca : Nat} {t : TypeId} {fr : Nat × Nat} (h : w.heap[vb]? = some (.cells (vA rb sb v pb cb pa ca) t fr)) :
    w.cell? ⟨vb, 0, none⟩ = some (.pointer (some ⟨rb, 0, none⟩)) ∧ w.cell? ⟨vb, 1, none⟩ = some (.pointer (some ⟨sb, 0, none⟩)) ∧ w.cell? ⟨vb, 2, none⟩ = some (.int .u64 (v.last : Int)) ∧ w.cell? ⟨vb, 3, none⟩ = some (.bool v.some) ∧ w.cell? ⟨vb, 4, none⟩ = some (.slice pb v.body.length cb) ∧ w.cell? ⟨vb, 5, none⟩ = some (.slice pa v.after.length ca) := by
  refine ⟨?_, ?_, ?_, ?_, ?_, ?_⟩ <;> (rw [cell_of_row _ _ _ _ _ _ h]; rfl)
/-- blocks that a vault's calls may turn -/
def VTy (base : Nat) (w : World) (k : Nat) : Prop := base ≤ k ∧ ∃ M t fr, w.heap[k]? = some (.cells M t fr) ∧ (t = 105 ∨ t = 165 ∨ t = 133 ∨ t = 33 ∨ t = 22)
def KV (base : Nat) (w w' : World) : Prop := Turns (VTy base w) w w'
theorem KV.refl (base : Nat) (w : World) : KV base w w := Turns.refl _ _
theorem KV.of_ks {base : Nat} {a b : World} (h : KS base a b) : KV base a b := h.imp (fun _k _ ⟨h1, M, t, fr, hm, ht⟩ => ⟨h1, M, t, fr, hm, ht.imp id (fun h => h.imp id .inl)⟩)
theorem KV.of_kt {base : Nat} {a b : World} (h : KT base a b) : KV base a b := KV.of_ks (KS.of_kt h)
theorem KV.trans {base : Nat} {a b c : World} (h : KV base a b) (k : KV base b c) : KV base a c :=
  ⟨k.os.trans h.os, k.tape.trans h.tape, k.output.trans h.output, Nat.le_trans h.size k.size, fun i hi hS => by
    have e1 := h.block i hi hS
    have hS2 : ¬ VTy base b i := fun h' => hS (by
      obtain ⟨h1, M, t, fr, h2, h3⟩ := h'
      exact ⟨h1, M, t, fr, by rw [← e1]; exact h2, h3⟩)
    rw [k.block i (Nat.lt_of_lt_of_le hi h.size) hS2]; exact e1⟩
theorem KV.of_below {base : Nat} {a b : World} (h : Below a.heap.size a b) : KV base a b := Turns.of_below h
theorem KV.next {base : Nat} {a b c : World} (h : KV base a b) (k : Below b.heap.size b c) : KV base a c := h.trans (.of_below k)
theorem KV.below {base : Nat} {a b : World} (h : KV base a b) (hb : base ≤ a.heap.size) : Below base a b := Turns.below h hb (fun _ hi => hi.1)
theorem KV.row {base : Nat} {a b : World} (h : KV base a b) {k : Nat} {M : Array Value} {t : TypeId} {fr : Nat × Nat} (hr : a.heap[k]? = some (.cells M t fr)) (h1 : t ≠ 105) (h2 : t ≠ 165) (h3 : t ≠ 133) (h4 : t ≠ 33) (h5 : t ≠ 22) : b.heap[k]? = some (.cells M t fr) :=
  Turns.keep h hr (fun ⟨_, M', t', fr', e, ht⟩ => by
    rw [hr] at e
    injection e with e1
    injection e1 with _ e2
    subst e2
    rcases ht with ht | ht | ht | ht | ht
    · exact h1 ht
    · exact h2 ht
    · exact h3 ht
    · exact h4 ht
    · exact h5 ht)
theorem KV.etype {base : Nat} {a b : World} (h : KV base a b) (hE : Rdr.EType a) (hb : 0 < base) : Rdr.EType b := by
  have hlt := hE.lt
  have h1 : a.heap[0]? = some (a.heap[0]'hlt) := Array.getElem?_eq_getElem hlt
  have h2 := Turns.keep h h1 (fun hs => by have := hs.1; omega)
  unfold Rdr.EType at hE ⊢
  rw [World.cell?] at hE ⊢
  rw [h1] at hE
  rw [h2]
  exact hE
theorem kv_no8 {base : Nat} {w : World} : ∀ k M fr, w.heap[k]? = some (.cells M 5 fr) → ¬ VTy base w k := fun k M fr hm ⟨_, M', t', fr', e, ht⟩ => by
  rw [hm] at e
  injection e with e1
  injection e1 with _ e2
  subst e2
  rcases ht with ht | ht | ht | ht | ht
  · exact absurd ht (by decide)
  · exact absurd ht (by decide)
  · exact absurd ht (by decide)
  · exact absurd ht (by decide)
  · exact absurd ht (by decide)
theorem KV.bs {base : Nat} {a b : World} (h : KV base a b) {p : Option Addr} {n c : Nat} {l : List UInt8} (hb : Rd a base (.slice p n c) l) : Rd b base (.slice p n c) l := hb.touch h kv_no8
/-- slices that a call owns stay where blocks of other types turn -/
theorem lsO_turn {S : Nat → Prop} {w w' : World} {c : Nat} {v : Value} {ls : List (List UInt8)} (h : LsO w c v ls) (ht : Turns S w w') (hS : ∀ k M t fr, S k → w.heap[k]? = some (.cells M t fr) → t ≠ 22 ∧ t ≠ 5) : LsO w' c v ls := by
  have ne : ∀ {e size n : Nat} {x : Value} {vs : List Value}, w.ownsRow c e size x n vs → (e = 22 ∨ e = 5) → ∀ i, x.ownBlock = some i → ¬ S i := fun {e size n x vs} ho he i hi hs => by
    rcases ho.2 with ⟨rfl, _⟩ | ⟨g, cap, cur, rfl, _, hg, _⟩
    · cases hi
    · simp only [Value.ownBlock, Option.some.injEq] at hi
      subst hi
      have := hS _ _ _ _ hs hg
      rcases he with he | he
      · exact this.1 he
      · exact this.2 he
  obtain ⟨hs, a, b⟩ := h.all
  exact ⟨hs, own_touch a ht (ne a (.inl rfl)), fun j hj => by
    obtain ⟨q, k, c1, d⟩ := b j hj
    exact ⟨q, k, c1, own_touch d ht (ne d (.inr rfl))⟩⟩
theorem KS.lsO {base : Nat} {a b : World} (h : KS base a b) {c : Nat} {v : Value} {ls : List (List UInt8)} (ho : LsO a c v ls) : LsO b c v ls :=
  lsO_turn ho h (fun k M t fr ⟨_, M', t', fr', e, ht⟩ hm => by
    rw [hm] at e
    injection e with e1
    injection e1 with _ e2
    subst e2
    rcases ht with rfl | rfl | rfl <;> exact ⟨by decide, by decide⟩)
/-- slots, where other blocks turn -/
theorem sx_turn {S : Nat → Prop} {base sb db a b : Nat} {d : DD} {s : SS} {w w' : World} (h : SX base sb db a b d s w) (ht : Turns S w w') (hS : ∀ k M t fr, S k → w.heap[k]? = some (.cells M t fr) → t ≠ 105 ∧ t ≠ 165 ∧ t ≠ 133 ∧ t ≠ 5 ∧ t ≠ 23) : SX base sb db a b d s w' := by
  obtain ⟨pb, cb, bx, r1, r2, r3⟩ := h.row
  refine ⟨dx_turn h.dx ht (fun k M t fr hs hm => ⟨(hS k M t fr hs hm).1, (hS k M t fr hs hm).2.1, (hS k M t fr hs hm).2.2.2.1⟩), h.low, ⟨pb, cb, bx, ht.keep r1 (fun hs => (hS _ _ _ _ hs r1).2.2.1 rfl), r2.touch ht (fun k M fr hm hs => (hS k M _ fr hs hm).2.2.2.1 rfl), ht.keep r3 (fun hs => (hS _ _ _ _ hs r3).2.2.2.2 rfl)⟩, h.turn, h.now⟩
/-- a vault, with its slots, its roll and its disk -/
structure XW (base rb sb db vb : Nat) (d : DD) (s : SS) (v : VS) (pb : Option Addr) (cb : Nat) (pa : Option Addr) (ca : Nat) (w : World) : Prop where
  sx : SX base sb db 1 2 d s w
  rol : RolAt w rb db 0
  low : base ≤ vb
  last : v.last < 18446744073709551616
  row : w.heap[vb]? = some (.cells (vA rb sb v pb cb pa ca) 33 (0, 0))
  rd : Rd w base (.slice pb v.body.length cb) v.body
  ls : LsO w base (.slice pa v.after.length ca) v.after
def XV (base rb sb db vb : Nat) (d : DD) (s : SS) (v : VS) (w : World) : Prop := ∃ pb cb pa ca, XW base rb sb db vb d s v pb cb pa ca w
variable {base rb sb db vb : Nat} {d : DD} {s : SS} {v : VS} {pb pa : Option Addr} {cb ca : Nat} {w : World}
theorem XW.kt {d' : DD} {w' : World} (h : XW base rb sb db vb d s v pb cb pa ca w) (hk : KT base w w') (hd : DX base db d' w') : XW base rb sb db vb d' s v pb cb pa ca w' :=
  ⟨h.sx.kt hk hd, h.rol.kt hk, h.low, h.last, hk.row h.row (by decide) (by decide), h.rd.touch hk kt_no8, hk.lsO h.ls⟩
theorem XW.ks {d' : DD} {s' : SS} {w' : World} (h : XW base rb sb db vb d s v pb cb pa ca w) (hk : KS base w w') (hd : SX base sb db 1 2 d' s' w') : XW base rb sb db vb d' s' v pb cb pa ca w' :=
  ⟨hd, hk.row h.rol (by decide) (by decide) (by decide), h.low, h.last, hk.row h.row (by decide) (by decide) (by decide), h.rd.touch hk ks_no8, KS.lsO hk h.ls⟩
theorem XW.below {w' : World} (h : XW base rb sb db vb d s v pb cb pa ca w) (hb : Below w.heap.size w w') : XW base rb sb db vb d s v pb cb pa ca w' := h.kt (KT.of_below hb) (h.sx.dx.below hb)
/-- the vault's row, or the row of its list, turned -/
theorem XW.put {S : Nat → Prop} {v' : VS} {pb' pa' : Option Addr} {cb' ca' : Nat} {w' : World} (h : XW base rb sb db vb d s v pb cb pa ca w) (ht : Turns S w w') (hS : ∀ k, S k → k = vb ∨ (Value.slice pa v.after.length ca).ownBlock = some k)
    (hl : v'.last < 18446744073709551616) (row : w'.heap[vb]? = some (.cells (vA rb sb v' pb' cb' pa' ca') 33 (0, 0))) (rd : Rd w' base (.slice pb' v'.body.length cb') v'.body) (ls : LsO w' base (.slice pa' v'.after.length ca') v'.after) : XW base rb sb db vb d s v' pb' cb' pa' ca' w' := by
  obtain ⟨hs, h1, h2⟩ := h.ls.all
  have ty : ∀ k M t fr, S k → w.heap[k]? = some (.cells M t fr) → t = 33 ∨ t = 22 := fun k M t fr hk hm => by
    rcases hS k hk with rfl | hk
    · have := h.row
      rw [hm] at this
      injection this with e1
      injection e1 with _ e2
      exact .inl e2
    · rcases h1.2 with ⟨e, _⟩ | ⟨g, cap, cur, e, _, hg, _⟩
      · rw [e] at hk; cases hk
      · rw [e] at hk
        simp only [Value.ownBlock, Option.some.injEq] at hk
        subst hk
        rw [hm] at hg
        injection hg with e1
        injection e1 with _ e2
        exact .inr e2
  refine ⟨sx_turn h.sx ht (fun k M t fr hk hm => ?_), ht.keep h.rol (fun hk => ?_), h.low, hl, row, rd, ls⟩
  · rcases ty k M t fr hk hm with rfl | rfl
    · exact ⟨by decide, by decide, by decide, by decide, by decide⟩
    · exact ⟨by decide, by decide, by decide, by decide, by decide⟩
  · rcases ty _ _ _ _ hk h.rol with e | e
    · exact absurd e (by decide)
    · exact absurd e (by decide)
theorem XW.kv {S : Nat → Prop} {w' : World} (h : XW base rb sb db vb d s v pb cb pa ca w) (ht : Turns S w w') (hS : ∀ k, S k → k = vb ∨ (Value.slice pa v.after.length ca).ownBlock = some k) : KV base w w' :=
  Turns.imp ht (fun k _ hk => by
    obtain ⟨hs, h1, h2⟩ := h.ls.all
    rcases hS k hk with rfl | hk
    · exact ⟨h.low, _, _, _, h.row, .inr (.inr (.inr (.inl rfl)))⟩
    · refine ⟨(h1.lt k hk).1, ?_⟩
      rcases h1.2 with ⟨e, _⟩ | ⟨g, cap, cur, e, _, hg, _⟩
      · rw [e] at hk; cases hk
      · rw [e] at hk
        simp only [Value.ownBlock, Option.some.injEq] at hk
        subst hk
        exact ⟨_, _, _, hg, .inr (.inr (.inr (.inr rfl)))⟩)
end Go.Proofs.YtnejjfglkindjaaGreatDoor.Vlt

namespace Go.Proofs.YtnejjfglkindjaaGreatDoor.Vlt
open Go.RowKit Go.Mir Go.Mir.Parts Dk Rol Wr Slt Cut
open Frm (frame scan)

theorem n8_lt (b : List UInt8) : Rdr.beN (b.take 8) < 18446744073709551616 := by
  have h1 := Rdr.beN_lt_pow (b.take 8)
  have h2 : (b.take 8).length ≤ 8 := by rw [List.length_take]; omega
  have h3 : 256 ^ (b.take 8).length ≤ 256 ^ 8 := Nat.pow_le_pow_right (by omega) h2
  have h4 : (256 : Nat) ^ 8 = 18446744073709551616 := by decide
  omega
theorem scan_count (l : List UInt8) : (scan l).1.length ≤ l.length := by
  obtain ⟨h1, h2, h3⟩ := scan_len _ l (Nat.le_refl _)
  have h4 : ((scan l).1.flatMap frame).length ≤ l.length := by rw [← h2, List.length_take]; omega
  have h5 : ∀ ls : List (List UInt8), ls.length ≤ (ls.flatMap frame).length := fun ls => by
    induction ls with
    | nil => exact Nat.le_refl _
    | cons x r ih =>
      rw [List.flatMap_cons, List.length_append, List.length_cons, Frm.frame_length]
      omega
  have := h5 (scan l).1
  omega
def FillP (base rb sb db vb : Nat) (d : DD) (s : SS) (w : World) (e : Ending) (w' : World) : Prop := KV base w w' ∧ Turns (fun k => k = vb) w w' ∧
  ((∃ v, fillV s (scan (fD d 0).now).1 = some v ∧ e = .returned .nilIface ∧ XV base rb sb db vb d s v w') ∨
   (fillV s (scan (fD d 0).now).1 = none ∧ ∃ ob, e = .returned (.iface 94 (.pointer (some ⟨ob, 0, none⟩))) ∧ w.heap.size ≤ ob ∧ OddAt w' ob ∧ ∃ v, XV base rb sb db vb d s v w'))
theorem built_oddI : Tryz.prog.built 140 [(0, .iface 25 (.int .i64 4))] = some #[.iface 25 (.int .i64 4)] := by kernel_rfl
/-- the fold, so far -/
structure FL (base rb sb db vb : Nat) (d : DD) (s : SS) (v0 v : VS) (pb : Option Addr) (cb : Nat) (pa : Option Addr) (ca : Nat) (L : List (List UInt8)) (V : Value) (B5 i : Nat) (w wr : World) : Prop where
  xw : XW base rb sb db vb d s v pb cb pa ca wr
  run : runV v0 (L.take i) = some v
  ls : LsO wr B5 V L
  off : ∀ k, V.ownBlock = some k → ¬ (Value.slice pa v.after.length ca).ownBlock = some k
  len : v.after.length ≤ i
  kv : KV base w wr
  low : w.heap.size ≤ wr.heap.size
  tv : Turns (fun k => k = vb) w wr
  own : ∀ k, (Value.slice pa v.after.length ca).ownBlock = some k → w.heap.size ≤ k
variable {base rb sb db vb : Nat} {d : DD} {s : SS} {v0 v : VS} {pb pa : Option Addr} {cb ca : Nat} {L : List (List UInt8)} {V : Value} {B5 i : Nat} {w wr : World}
theorem FL.below {w' : World} (h : FL base rb sb db vb d s v0 v pb cb pa ca L V B5 i w wr) (hb : Below wr.heap.size wr w') : FL base rb sb db vb d s v0 v pb cb pa ca L V B5 i w w' :=
  ⟨h.xw.below hb, h.run, h.ls.below hb, h.off, h.len, h.kv.next hb, Nat.le_trans h.low hb.size, h.tv.trans (Turns.of_below (S := fun k => k = vb) hb) (fun _ _ hS => hS), h.own⟩
theorem FL.same {b : List UInt8} (h : FL base rb sb db vb d s v0 v pb cb pa ca L V B5 i w wr) (hi : i < L.length) (hb : L[i] = b) (hs : stepV v b = some v) : FL base rb sb db vb d s v0 v pb cb pa ca L V B5 (i + 1) w wr :=
  ⟨h.xw, by rw [List.take_succ_eq_append_getElem hi, hb, runV_snoc, h.run]; exact hs, h.ls, h.off, by have := h.len; omega, h.kv, h.low, h.tv, h.own⟩
theorem FL.bad {b : List UInt8} (h : FL base rb sb db vb d s v0 v pb cb pa ca L V B5 i w wr) (hi : i < L.length) (hb : L[i] = b) (hs : stepV v b = none) : runV v0 L = none := by
  have h1 : runV v0 (L.take (i + 1)) = none := by rw [List.take_succ_eq_append_getElem hi, hb, runV_snoc, h.run]; exact hs
  rw [← List.take_append_drop (i + 1) L]
  exact runV_none _ _ _ h1
/-- a record more: the list appended to, then the number and the list stored -/
theorem FL.push {w2 w3 : World} {q p9 : Option Addr} {k c9 n : Nat} {b x : List UInt8} (h : FL base rb sb db vb d s v0 v pb cb pa ca L V B5 i w wr) (hi : i < L.length) (hb : L[i] = b) (hs : stepV v b = some ⟨n, v.some, v.body, v.after ++ [x]⟩) (hn : n < 18446744073709551616)
    (hx : wr.ownsRow base 5 1 (.slice q x.length k) x.length (bytesV x)) {hs' : List Value}
    (hl : wr.ownsRow base 22 1 (.slice pa v.after.length ca) v.after.length hs') (hl2 : ∀ j (h : j < v.after.length), ∃ q k, hs'[j]? = some (.slice q v.after[j].length k) ∧ wr.ownsRow base 5 1 (.slice q v.after[j].length k) v.after[j].length (bytesV v.after[j]))
    {tmp : Obj} (ho : w3.ownsRow base 22 1 (.slice p9 (v.after.length + 1) c9) (v.after.length + 1) (hs' ++ [.slice q x.length k])) (hg : (wr.alloc tmp).grownBy w3 (Value.slice pa v.after.length ca).ownBlock)
    (hnx : ∀ k, (Value.slice p9 (v.after.length + 1) c9).ownBlock = some k → (Value.slice pa v.after.length ca).ownBlock = some k ∨ k = (wr.alloc tmp).heap.size) (hw2 : w2 = (w3.setCell ⟨vb, 2, none⟩ (.int .u64 (n : Int))).setCell ⟨vb, 5, none⟩ (.slice p9 (v.after.length + 1) c9)) :
    FL base rb sb db vb d s v0 ⟨n, v.some, v.body, v.after ++ [x]⟩ pb cb p9 c9 L V B5 (i + 1) w w2 ∧ w3.heap[vb]? = some (.cells (vA rb sb v pb cb pa ca) 33 (0, 0)) ∧ (w3.setCell ⟨vb, 2, none⟩ (.int .u64 (n : Int))).heap[vb]? = some (.cells (vA rb sb ⟨n, v.some, v.body, v.after⟩ pb cb pa ca) 33 (0, 0)) := by
  subst hw2
  have hlen : (v.after ++ [x]).length = v.after.length + 1 := by rw [List.length_append]; rfl
  have hva : ¬ (Value.slice pa v.after.length ca).ownBlock = some vb := fun hk => by
    rcases hl.2 with ⟨e, _⟩ | ⟨g, cap, cur, e, _, hgg, _⟩
    · rw [e] at hk; cases hk
    · rw [e] at hk
      simp only [Value.ownBlock, Option.some.injEq] at hk
      subst hk
      have := h.xw.row
      rw [hgg] at this
      injection this with e1
      injection e1 with _ e2
      exact absurd e2 (by decide)
  have ht3 : Turns (fun k => (Value.slice pa v.after.length ca).ownBlock = some k) wr w3 := (Turns.of_below (S := fun k => (Value.slice pa v.after.length ca).ownBlock = some k) (Below.allocs wr tmp)).trans (Turns.grown hg (fun k h => h)) (fun _ _ h => h)
  have hr3 := ht3.keep h.xw.row hva
  have hr4 := Dk.cell_put (off := 2) (.int .u64 (n : Int)) hr3
  have hr5 := Dk.cell_put (off := 5) (.slice p9 (v.after.length + 1) c9) hr4
  have ht3' : Turns (fun k => k = vb ∨ (Value.slice pa v.after.length ca).ownBlock = some k) wr w3 := ht3.imp (fun k _ hk => Or.inr hk)
  have ht5 : Turns (fun k => k = vb ∨ (Value.slice pa v.after.length ca).ownBlock = some k) wr ((w3.setCell ⟨vb, 2, none⟩ (.int .u64 (n : Int))).setCell ⟨vb, 5, none⟩ (.slice p9 (v.after.length + 1) c9)) :=
    (ht3'.setCell (p := ⟨vb, 2, none⟩) (fun _ => .inl rfl) _).setCell (p := ⟨vb, 5, none⟩) (fun _ => .inl rfl) _
  have htv : Turns (fun k => k = vb) w3 ((w3.setCell ⟨vb, 2, none⟩ (.int .u64 (n : Int))).setCell ⟨vb, 5, none⟩ (.slice p9 (v.after.length + 1) c9)) :=
    ((Turns.refl (fun k => k = vb) w3).setCell (p := ⟨vb, 2, none⟩) (fun _ => rfl) _).setCell (p := ⟨vb, 5, none⟩) (fun _ => rfl) _
  have hls3 : LsO w3 base (.slice p9 (v.after.length + 1) c9) (v.after ++ [x]) := LsO.push hl hl2 hx ho hg
  have hvr : ∀ k M t fr, k = vb → w3.heap[k]? = some (.cells M t fr) → t ≠ 22 ∧ t ≠ 5 := fun k M t fr hk hm => by
    subst hk
    rw [hr3] at hm
    injection hm with e1
    injection e1 with _ e2
    subst e2
    exact ⟨by decide, by decide⟩
  have hls5 := lsO_turn hls3 htv hvr
  have hV3 : ∀ k, V.ownBlock = some k → ¬ (k = vb ∨ (Value.slice pa v.after.length ca).ownBlock = some k) := fun k hk hh => by
    rcases hh with rfl | hh
    · obtain ⟨hs9, g1, _⟩ := h.ls.all
      rcases g1.2 with ⟨e, _⟩ | ⟨g, cap, cur, e, _, hgg, _⟩
      · rw [e] at hk; cases hk
      · rw [e] at hk
        simp only [Value.ownBlock, Option.some.injEq] at hk
        subst hk
        have := h.xw.row
        rw [hgg] at this
        injection this with e1
        injection e1 with _ e2
        exact absurd e2 (by decide)
    · exact h.off k hk hh
  have hLV : LsO ((w3.setCell ⟨vb, 2, none⟩ (.int .u64 (n : Int))).setCell ⟨vb, 5, none⟩ (.slice p9 (v.after.length + 1) c9)) B5 V L := by
    obtain ⟨hs9, g1, g2⟩ := h.ls.all
    refine ⟨hs9, own_touch g1 ht5 hV3, fun j hj => ?_⟩
    obtain ⟨q2, k2, e1, e2⟩ := g2 j hj
    refine ⟨q2, k2, e1, own_touch e2 ht5 (fun k hk hh => ?_)⟩
    rcases e2.2 with ⟨e, _⟩ | ⟨g, cap, cur, e, _, hgg, _⟩
    · rw [e] at hk; cases hk
    · rw [e] at hk
      simp only [Value.ownBlock, Option.some.injEq] at hk
      subst hk
      rcases hh with rfl | hh
      · have := h.xw.row
        rw [hgg] at this
        injection this with e1
        injection e1 with _ e2
        exact absurd e2 (by decide)
      · exact own_apart hl e2 (by decide) _ hh (by rw [e]; rfl)
  have hrow : ((w3.setCell ⟨vb, 2, none⟩ (.int .u64 (n : Int))).setCell ⟨vb, 5, none⟩ (.slice p9 (v.after.length + 1) c9)).heap[vb]? = some (.cells (vA rb sb ⟨n, v.some, v.body, v.after ++ [x]⟩ pb cb p9 c9) 33 (0, 0)) := by
    unfold vA
    rw [hlen]
    exact hr5
  have hls6 : LsO ((w3.setCell ⟨vb, 2, none⟩ (.int .u64 (n : Int))).setCell ⟨vb, 5, none⟩ (.slice p9 (v.after.length + 1) c9)) base (.slice p9 (v.after ++ [x]).length c9) (v.after ++ [x]) := by rw [hlen]; exact hls5
  refine ⟨⟨h.xw.put ht5 (fun k hk => hk) hn hrow ?_ hls6, ?_, hLV, ?_, ?_, h.kv.trans (h.xw.kv ht5 (fun k hk => hk)), Nat.le_trans h.low ht5.size, h.tv.trans ht5 (fun k hk hS => hS.elim id (fun ho => absurd (h.own k ho) (by omega))), fun k hk => ?_⟩, hr3, hr4⟩
  · refine h.xw.rd.touch ht5 (fun k M fr hm hh => ?_)
    rcases hh with rfl | hh
    · have := h.xw.row
      rw [hm] at this
      injection this with e1
      injection e1 with _ e2
      exact absurd e2 (by decide)
    · rcases hl.2 with ⟨e, _⟩ | ⟨g, cap, cur, e, _, hgg, _⟩
      · rw [e] at hh; cases hh
      · rw [e] at hh
        simp only [Value.ownBlock, Option.some.injEq] at hh
        subst hh
        rw [hm] at hgg
        injection hgg with e1
        injection e1 with _ e2
        exact absurd e2 (by decide)
  · rw [List.take_succ_eq_append_getElem hi, hb, runV_snoc, h.run]; exact hs
  · intro k hk hh
    rw [hlen] at hh
    rcases hnx k hh with e | e
    · exact h.off k hk e
    · obtain ⟨hs9, g1, _⟩ := h.ls.all
      have := (g1.lt k hk).2
      rw [World.size_alloc] at e
      omega
  · rw [hlen]
    have := h.len
    omega
  · rw [hlen] at hk
    rcases hnx k hk with e | e
    · exact h.own k e
    · have := h.low
      rw [World.size_alloc] at e
      omega
end Go.Proofs.YtnejjfglkindjaaGreatDoor.Vlt

namespace Go.Proofs.YtnejjfglkindjaaGreatDoor.Vlt
open Go.RowKit Go.Mir Go.Mir.Parts Dk Rol Wr Slt Cut
open Frm (frame scan)

set_option maxRecDepth 100000 in
set_option maxHeartbeats 3200000 in
theorem fill_any {base rb sb db vb : Nat} {d : DD} {s : SS} (w : World) (hE : Rdr.EType w) (hg : 0 < base) (h : XW base rb sb db vb d s VS.zero none 0 none 0 w) (h0 : s.turn = 0 → s.body = []) (hl : s.body.length ≤ 100000) :
    Calls Tryz.prog 35 #[.pointer (some ⟨vb, 0, none⟩)] w (FillP base rb sb db vb d s w) := by
  have HE := Lib.hid hE
  have HG := Lib.hid hg
  have HSL := Lib.hid hl
  obtain ⟨-, hc1, -⟩ := vA_cells h.row
  have HGT := Lib.hid (get_any w h.sx h0 (by omega))
  have HW := Lib.hid h
  clear hE hg h hl h0
  go_enter Tryz.func35, Tryz.ntmps35
  go_wp2_with fail
  refine HGT.out.mono ?_
  rintro e w1 ⟨p1, c1, rfl, ho1, hb1⟩
  have HXW := Lib.hid (HW.out.below hb1)
  have HKV := Lib.hid (KV.of_below (base := base) hb1)
  have HTV : Hid (Turns (fun k => k = vb) w w1) := Turns.of_below hb1
  have HBS := Lib.hid (own_bs ho1)
  clear ho1 hb1 HGT HW hc1
  by_cases ht : s.turn = 0
  · have hd : decide (0 < s.turn) = false := decide_eq_false (by omega)
    have HSTART : Hid (startV s = some VS.zero) := by show _ = _; unfold startV; rw [if_pos ht]
    have HAF : Hid (VS.zero.after.length = 0) := rfl
    rw [hd]
    clear ht hd
    obtain ⟨v0, hv0⟩ : ∃ v0, VS.zero = v0 := ⟨_, rfl⟩
    rw [hv0] at HSTART HXW HAF
    clear hv0
    skip
    -- from a world w1 with HXW : XW .. v0 .. w1; HKV : KV base w w1; HSTART : startV s = some v0
    obtain ⟨hc0, -, hc2, -, -, hc5⟩ := vA_cells HXW.out.row
    have hbo := bodies_any w1 (HKV.out.etype HE.out HG.out) HXW.out.sx.dx HXW.out.rol (by omega)
    obtain ⟨L, hL⟩ : ∃ L, (scan (fD d 0).now).1 = L := ⟨_, rfl⟩
    have HLC := Lib.hid (scan_count (fD d 0).now)
    have HLB := Lib.hid (fun x (hx : x ∈ (scan (fD d 0).now).1) => ((scan_len _ (fD d 0).now (Nat.le_refl _)).2.2 x hx).2)
    have HFV : Hid (fillV s (scan (fD d 0).now).1 = runV v0 (scan (fD d 0).now).1) := by show _ = _; unfold fillV; rw [HSTART.out]; rfl
    have HNW := Lib.hid (HXW.out.sx.dx.le (i := 0) (by omega))
    unfold BodP at hbo
    rw [hL] at hbo HLC HLB HFV
    have HBO := Lib.hid hbo
    have HFP : Hid (∀ (v : VS) (w' : World), runV v0 L = some v → KV base w w' ∧ Turns (fun k => k = vb) w w' → XV base rb sb db vb d s v w' → FillP base rb sb db vb d s w (.returned .nilIface) w') := fun v w' h1 h2 h3 => ⟨h2.1, h2.2, .inl ⟨v, by rw [hL, HFV.out]; exact h1, rfl, h3⟩⟩
    have HFN : Hid (∀ (v : VS) (ob : Nat) (w' : World), runV v0 L = none → KV base w w' ∧ Turns (fun k => k = vb) w w' → XV base rb sb db vb d s v w' → w.heap.size ≤ ob → OddAt w' ob → FillP base rb sb db vb d s w (.returned (.iface 94 (.pointer (some ⟨ob, 0, none⟩)))) w') := fun v ob w' h1 h2 h3 h4 h5 => ⟨h2.1, h2.2, .inr ⟨by rw [hL, HFV.out]; exact h1, ob, rfl, h4, h5, v, h3⟩⟩
    clear hbo hL
    go_wp2_with fail
    refine HBO.out.mono ?_
    rintro e w5 ⟨p5, c5, rfl, hls, hb5⟩
    have HLN : Hid (L.length ≤ 65536) := by show _ ≤ _; have := HLC.out; have := HNW.out; omega
    have HFL0 : Hid (FL base rb sb db vb d s v0 v0 none 0 none 0 L (.slice p5 L.length c5) w1.heap.size 0 w w5) :=
      ⟨HXW.out.below hb5, rfl, hls, (fun k _ hh => by cases hh), (by have := HAF.out; omega), HKV.out.next hb5, Nat.le_trans HKV.out.size hb5.size, HTV.out.trans (Turns.of_below (S := fun k => k = vb) hb5) (fun _ _ hS => hS), (fun k hh => by cases hh)⟩
    have hlb : L.length ≤ 65536 := HLN.out
    have hlc : L.length ≤ c5 := by
      obtain ⟨hs9, g1, _⟩ := hls.all
      obtain ⟨p1, c1, he, hs⟩ := own_sl g1
      cases he
      exact hs.le
    clear hls hb5 HBO hc0 hc2 hc5
    generalize w1.heap.size = B5 at *
    go_wp2_with fail
    go_loopw [9, 10, 11, 12, 48, 58, 62, 69] (fun _ _ _ _ j _ _ _ wr => ∃ (i : Nat) (v : VS) (pb : Option Addr) (cb : Nat) (pa : Option Addr) (ca : Nat), i ≤ L.length ∧ j = .int .i64 i ∧ FL base rb sb db vb d s v0 v pb cb pa ca L (.slice p5 L.length c5) B5 i w wr) (fun _ _ _ _ j _ _ _ _ => L.length - (intOf j).toNat)
    case atStart => exact ⟨0, v0, none, 0, none, 0, Nat.zero_le _, rfl, by have h1 := HFL0.out; have h2 := HAF.out; exact h1⟩
    case round =>
      clear HFL0 HXW HKV HTV
      obtain ⟨i, v, pb, cb, pa, ca, hi, rfl, hfl⟩ := hrel
      have HFL := Lib.hid hfl
      clear hfl
      by_cases hlt : i < L.length
      · have hd1 : decide ((i : Int) < (L.length : Int)) = true := decide_eq_true (by omega)
        have hd2 : decide (i < L.length) = true := decide_eq_true hlt
        have hi1 : (i : Int) < (L.length : Int) := by omega
        obtain ⟨pq, cq, hv, hpt⟩ := HFL.out.ls.ls.sl
        cases hv
        obtain ⟨b, o, rfl⟩ := hpt.addr (by omega)
        obtain ⟨q, m, k, hcl, hbs⟩ := hpt.cell _ rfl i hlt
        rw [add_none] at hcl
        obtain rfl := hbs.length
        have HX65 := Lib.hid (HLB.out _ (List.getElem_mem hlt))
        have HSP := Lib.hid (split_any q k L[i] 1 (Nat.le_refl _) wr (HFL.out.kv.etype HE.out HG.out) hbs (by have := HX65.out; omega))
        have HLI : Hid (∀ b, L[i] = b → L[i] = b) := fun _ h => h
        obtain ⟨X, hX⟩ : ∃ X, L[i] = X := ⟨_, rfl⟩
        have HIX := Lib.hid (And.intro hlt hX)
        rw [hX] at HSP hcl HX65
        clear hbs HLI hX hpt
        go_wp2_with fail
        refine HSP.out.mono ?_
        rintro e w6 ⟨hb6, hcase⟩
        have HF6 := Lib.hid (HFL.out.below hb6)
        have HSZ := Lib.hid hb6.size
        have HLW := Lib.hid HFL.out.low
        have HBW : Hid (base ≤ wr.heap.size) := HFL.out.xw.sx.dx.1
        obtain ⟨-, -, hv2, -, -, hv5⟩ := vA_cells HF6.out.xw.row
        clear hb6 hcl HSP HFL
        rcases hcase with ⟨h9, pr, cr, rfl, hor⟩ | ⟨h9, ob, rfl, hob, hodd⟩
        rotate_left
        · have HST : Hid (stepV v X = none) := by show _ = _; unfold stepV; rw [if_pos (by omega)]
          have HEND := Lib.hid (HFN.out v ob w6 (HF6.out.bad HIX.out.1 HIX.out.2 HST.out) ⟨HF6.out.kv, HF6.out.tv⟩ ⟨_, _, _, _, HF6.out.xw⟩ (by have := HLW.out; omega) hodd)
          clear h9 hob hodd
          go_wp2_with fail
          go_ret
          exact HEND.out
        have hnl := n8_lt X
        have hvl := HF6.out.xw.last
        have HXL : Hid (¬ X.length < 9) := by show ¬ _; omega
        have HOR := Lib.hid hor
        clear hor h9
        obtain ⟨NN, hNN⟩ : ∃ NN, Rdr.beN (X.take 8) = NN := ⟨_, rfl⟩
        have HNN := Lib.hid hNN
        rw [hNN] at hnl ⊢
        clear hNN
        by_cases hle : NN ≤ v.last
        · have hd3 : decide ((NN : Int) ≤ (v.last : Int)) = true := decide_eq_true (by omega)
          have hd4 : decide (NN ≤ v.last) = true := decide_eq_true hle
          have HST : Hid (stepV v X = some v) := by show _ = _; unfold stepV; rw [if_neg HXL.out, HNN.out, if_pos hle]
          have HFZ := Lib.hid (HF6.out.same HIX.out.1 HIX.out.2 HST.out)
          clear hle HOR
          go_wp2_with fail
          go_roundw
          case rel => exact ⟨i + 1, v, pb, cb, pa, ca, HIX.out.1, by go_num, HFZ.out⟩
          case measure => have := HIX.out.1; simp [intOf]; omega
        · have hd3 : decide ((NN : Int) ≤ (v.last : Int)) = false := decide_eq_false (by omega)
          have hd4 : decide (NN ≤ v.last) = false := decide_eq_false hle
          have hw1 : IntKind.u64.wrap ((v.last : Int) + 1) = (v.last : Int) + 1 := by rw [IntKind.wrap_u64]; omega
          by_cases heq : NN = v.last + 1
          rotate_left
          · have q1 : ((NN : Int) == (v.last : Int) + 1) = false := beq_eq_false_iff_ne.2 (by omega)
            have q2 : ((NN : Int) != (v.last : Int) + 1) = true := bne_iff_ne.2 (by omega)
            have HST : Hid (stepV v X = none) := by show _ = _; unfold stepV; rw [if_neg HXL.out, HNN.out, if_neg hle, if_neg heq]
            have HBA := Lib.hid (HF6.out.bad HIX.out.1 HIX.out.2 HST.out)
            have hal := Below.allocs w6 (.cells #[.iface 25 (.int .i64 4)] 140)
            have hod : OddAt (w6.alloc (.cells #[.iface 25 (.int .i64 4)] 140)) w6.heap.size := heap_alloc_last w6 _
            have HEND := Lib.hid (HFN.out v w6.heap.size _ HBA.out ⟨HF6.out.kv.next hal, HF6.out.tv.trans (Turns.of_below (S := fun k => k = vb) hal) (fun _ _ hS => hS)⟩ ⟨_, _, _, _, HF6.out.xw.below hal⟩ HF6.out.low hod)
            have hBU := built_oddI
            clear hle heq hal hod HOR
            go_wp2_with (refine Rdr.wpList_build rfl 140 _ rfl [(0, .iface 25 (.int .i64 4))] rfl _ hBU ?_)
            go_ret
            exact HEND.out
          have q1 : ((NN : Int) == (v.last : Int) + 1) = true := beq_iff_eq.2 (by omega)
          have q2 : ((NN : Int) != (v.last : Int) + 1) = false := by rw [bne_eq_false_iff_eq]; omega
          have HST : Hid (stepV v X = some ⟨NN, v.some, v.body, v.after ++ [X.drop 8]⟩) := by show _ = _; unfold stepV; rw [if_neg HXL.out, HNN.out, if_neg hle, if_pos heq]
          clear hle heq
          obtain ⟨RB, hRB⟩ : ∃ RB, X.drop 8 = RB := ⟨_, rfl⟩
          rw [hRB] at HST HOR ⊢
          clear hRB
          obtain ⟨hs', hl1, hl2⟩ := HF6.out.xw.ls.all
          have hal := Below.allocs w6 (.cells #[.slice pr RB.length cr] 22)
          have HO8 := Lib.hid (own_touch hl1 (Turns.of_below (S := fun _ => False) hal) (fun _ _ h => h))
          have HX8 := Lib.hid (hdr_sl w6 (.slice pr RB.length cr) 22 w6.heap.size rfl)
          have HS8 : Hid (base ≤ (w6.alloc (.cells #[.slice pr RB.length cr] 22)).heap.size) := Nat.le_trans HF6.out.xw.sx.dx.1 hal.size
          have hva : v.after.length ≤ 65536 := by have := HF6.out.len; have := HIX.out.1; omega
          have HOX := Lib.hid (own_base (base' := base) HOR.out (fun k hk => Nat.le_trans HBW.out (own_ge HOR.out k hk)))
          clear hal
          go_wp2_with (first
            | (at_builtin; refine wpList_append_nx rfl _ _ 31 rfl (base := base) Tryz.underlying31 infoS rfl (by omega) rfl HO8.out rfl HX8.out (fun u hu => by rw [List.mem_singleton] at hu; subst hu; rfl) ⟨by omega, by omega⟩ HS8.out ?_))
          intro p9 c9 w9 ho9 hgr hnx _
          obtain ⟨hpu, hr3, hr4⟩ := HF6.out.push HIX.out.1 HIX.out.2 HST.out hnl HOX.out hl1 hl2 ho9 hgr (fun k hk => by rw [World.size_alloc]; exact hnx k hk) rfl
          have HFZ := Lib.hid hpu
          obtain ⟨-, -, hy2, -, -, -⟩ := vA_cells hr3
          have hz2 := frozen_of_row _ _ 2 _ _ hr3
          obtain ⟨-, -, -, -, -, hy5⟩ := vA_cells hr4
          have hz5 := frozen_of_row _ _ 5 _ _ hr4
          clear ho9 hgr hnx hpu hr3 hr4 hv2 hv5 hl1 hl2 HO8 HX8 HS8 HOX
          go_wp2_with fail
          go_roundw
          case rel => exact ⟨i + 1, ⟨NN, v.some, v.body, v.after ++ [RB]⟩, pb, cb, p9, c9, HIX.out.1, by go_num, HFZ.out⟩
          case measure => have := HIX.out.1; simp [intOf]; omega
      · have hd1 : decide ((i : Int) < (L.length : Int)) = false := decide_eq_false (by omega)
        have hd2 : decide (i < L.length) = false := decide_eq_false hlt
        have hrn := HFL.out.run
        rw [List.take_of_length_le (by omega)] at hrn
        have HEND := Lib.hid (HFP.out v wr hrn ⟨HFL.out.kv, HFL.out.tv⟩ ⟨_, _, _, _, HFL.out.xw⟩)
        clear hrn hlt
        go_wp2_with fail
        go_ret
        exact HEND.out
  · have hd : decide (0 < s.turn) = true := decide_eq_true (by omega)
    have HSP := Lib.hid (split_any p1 c1 s.body 0 (by omega) w1 (HKV.out.etype HE.out HG.out) HBS.out (by have := HSL.out; omega))
    have HLW := Lib.hid HKV.out.size
    rw [hd]
    have HT0 : Hid (¬ s.turn = 0) := ht
    clear ht hd
    go_wp2_with fail
    refine HSP.out.mono ?_
    rintro e w2 ⟨hb2, hcase⟩
    have HX2 := Lib.hid (HXW.out.below hb2)
    have HK2 := Lib.hid (HKV.out.next hb2)
    have HT2 : Hid (Turns (fun k => k = vb) w w2) := HTV.out.trans (Turns.of_below (S := fun k => k = vb) hb2) (fun _ _ hS => hS)
    clear HTV
    have HBW : Hid (base ≤ w1.heap.size) := HXW.out.sx.dx.1
    clear hb2 HSP HXW HKV
    rcases hcase with ⟨h9, pr, cr, rfl, hor⟩ | ⟨h9, ob, rfl, hob, hodd⟩
    rotate_left
    · have hst : startV s = none := by unfold startV; rw [if_neg HT0.out, if_pos (by omega)]
      have HEND : Hid (FillP base rb sb db vb d s w (.returned (.iface 94 (.pointer (some ⟨ob, 0, none⟩)))) w2) := ⟨HK2.out, HT2.out, .inr ⟨by unfold fillV; rw [hst]; rfl, ob, rfl, Nat.le_trans HLW.out hob, hodd, VS.zero, _, _, _, _, HX2.out⟩⟩
      clear h9 hob hodd hst
      go_wp2_with fail
      go_ret
      exact HEND.out
    have hnl := n8_lt s.body
    have HSTART0 : Hid (startV s = some ⟨Rdr.beN (s.body.take 8), true, s.body.drop 8, []⟩) := by show _ = _; unfold startV; rw [if_neg HT0.out, if_neg (by omega)]
    obtain ⟨NN, hNN⟩ : ∃ NN, Rdr.beN (s.body.take 8) = NN := ⟨_, rfl⟩
    obtain ⟨RB, hRB⟩ : ∃ RB, s.body.drop 8 = RB := ⟨_, rfl⟩
    rw [hNN, hRB] at HSTART0
    rw [hNN] at hnl
    rw [hRB] at hor
    rw [hNN, hRB]
    have HRD := Lib.hid (Rd.of_own (own_base (base' := base) hor (fun k hk => Nat.le_trans HBW.out (own_ge hor k hk))))
    clear hor h9 hNN hRB
    have r1 := HX2.out.row
    have r2 : (w2.setCell ⟨vb, 2, none⟩ (.int .u64 (NN : Int))).heap[vb]? = some (.cells (vA rb sb ⟨NN, false, [], []⟩ none 0 none 0) 33 (0, 0)) := Dk.cell_put (off := 2) (.int .u64 (NN : Int)) r1
    have r3 : ((w2.setCell ⟨vb, 2, none⟩ (.int .u64 (NN : Int))).setCell ⟨vb, 3, none⟩ (.bool true)).heap[vb]? = some (.cells (vA rb sb ⟨NN, true, [], []⟩ none 0 none 0) 33 (0, 0)) := Dk.cell_put (off := 3) (.bool true) r2
    have r4 : (((w2.setCell ⟨vb, 2, none⟩ (.int .u64 (NN : Int))).setCell ⟨vb, 3, none⟩ (.bool true)).setCell ⟨vb, 4, none⟩ (.slice pr RB.length cr)).heap[vb]? = some (.cells (vA rb sb ⟨NN, true, RB, []⟩ pr cr none 0) 33 (0, 0)) := Dk.cell_put (off := 4) (.slice pr RB.length cr) r3
    obtain ⟨-, -, hy2, -, -, -⟩ := vA_cells r1
    have hz2 := frozen_of_row _ _ 2 _ _ r1
    obtain ⟨-, -, -, hy3, -, -⟩ := vA_cells r2
    have hz3 := frozen_of_row _ _ 3 _ _ r2
    obtain ⟨-, -, -, -, hy4, -⟩ := vA_cells r3
    have hz4 := frozen_of_row _ _ 4 _ _ r3
    have hT : Turns (fun k => k = vb) w2 (((w2.setCell ⟨vb, 2, none⟩ (.int .u64 (NN : Int))).setCell ⟨vb, 3, none⟩ (.bool true)).setCell ⟨vb, 4, none⟩ (.slice pr RB.length cr)) :=
      (((Turns.refl (fun k => k = vb) w2).setCell (p := ⟨vb, 2, none⟩) (fun _ => rfl) _).setCell (p := ⟨vb, 3, none⟩) (fun _ => rfl) _).setCell (p := ⟨vb, 4, none⟩) (fun _ => rfl) _
    have hv8 : ∀ k M fr, w2.heap[k]? = some (.cells M 5 fr) → ¬ k = vb := fun k M fr hm e => by
      rw [e, r1] at hm
      injection hm with e1
      injection e1 with _ e2
      exact absurd e2 (by decide)
    have HXW : Hid (XW base rb sb db vb d s ⟨NN, true, RB, []⟩ pr cr none 0 (((w2.setCell ⟨vb, 2, none⟩ (.int .u64 (NN : Int))).setCell ⟨vb, 3, none⟩ (.bool true)).setCell ⟨vb, 4, none⟩ (.slice pr RB.length cr))) :=
      HX2.out.put hT (fun k hk => .inl hk) hnl r4 (HRD.out.touch hT hv8) (LsO.nil _ _)
    have HKV : Hid (KV base w (((w2.setCell ⟨vb, 2, none⟩ (.int .u64 (NN : Int))).setCell ⟨vb, 3, none⟩ (.bool true)).setCell ⟨vb, 4, none⟩ (.slice pr RB.length cr))) := HK2.out.trans (HX2.out.kv hT (fun k hk => .inl hk))
    have HTV : Hid (Turns (fun k => k = vb) w (((w2.setCell ⟨vb, 2, none⟩ (.int .u64 (NN : Int))).setCell ⟨vb, 3, none⟩ (.bool true)).setCell ⟨vb, 4, none⟩ (.slice pr RB.length cr))) := HT2.out.trans hT (fun _ _ hS => hS)
    clear r1 r2 r3 r4 hT hv8 HRD HX2 HK2 HT2
    go_upto_region 7 with fail
    generalize ((w2.setCell ⟨vb, 2, none⟩ (.int .u64 (NN : Int))).setCell ⟨vb, 3, none⟩ (.bool true)).setCell ⟨vb, 4, none⟩ (.slice pr RB.length cr) = w3 at *
    clear hy2 hy3 hy4 hz2 hz3 hz4
    obtain ⟨v0, hv0⟩ : ∃ v0 : VS, v0 = ⟨NN, true, RB, []⟩ := ⟨_, rfl⟩
    have HAF : Hid (v0.after.length = 0) := by rw [hv0]; exact rfl
    have HSTART : Hid (startV s = some v0) := by rw [hv0]; exact HSTART0.out
    rw [← hv0] at HXW
    clear hv0 HSTART0
    skip
    -- from a world w3 with HXW : XW .. v0 .. w3; HKV : KV base w w3; HSTART : startV s = some v0
    obtain ⟨hc0, -, hc2, -, -, hc5⟩ := vA_cells HXW.out.row
    have hbo := bodies_any w3 (HKV.out.etype HE.out HG.out) HXW.out.sx.dx HXW.out.rol (by omega)
    obtain ⟨L, hL⟩ : ∃ L, (scan (fD d 0).now).1 = L := ⟨_, rfl⟩
    have HLC := Lib.hid (scan_count (fD d 0).now)
    have HLB := Lib.hid (fun x (hx : x ∈ (scan (fD d 0).now).1) => ((scan_len _ (fD d 0).now (Nat.le_refl _)).2.2 x hx).2)
    have HFV : Hid (fillV s (scan (fD d 0).now).1 = runV v0 (scan (fD d 0).now).1) := by show _ = _; unfold fillV; rw [HSTART.out]; rfl
    have HNW := Lib.hid (HXW.out.sx.dx.le (i := 0) (by omega))
    unfold BodP at hbo
    rw [hL] at hbo HLC HLB HFV
    have HBO := Lib.hid hbo
    have HFP : Hid (∀ (v : VS) (w' : World), runV v0 L = some v → KV base w w' ∧ Turns (fun k => k = vb) w w' → XV base rb sb db vb d s v w' → FillP base rb sb db vb d s w (.returned .nilIface) w') := fun v w' h1 h2 h3 => ⟨h2.1, h2.2, .inl ⟨v, by rw [hL, HFV.out]; exact h1, rfl, h3⟩⟩
    have HFN : Hid (∀ (v : VS) (ob : Nat) (w' : World), runV v0 L = none → KV base w w' ∧ Turns (fun k => k = vb) w w' → XV base rb sb db vb d s v w' → w.heap.size ≤ ob → OddAt w' ob → FillP base rb sb db vb d s w (.returned (.iface 94 (.pointer (some ⟨ob, 0, none⟩)))) w') := fun v ob w' h1 h2 h3 h4 h5 => ⟨h2.1, h2.2, .inr ⟨by rw [hL, HFV.out]; exact h1, ob, rfl, h4, h5, v, h3⟩⟩
    clear hbo hL
    go_wp2_with fail
    refine HBO.out.mono ?_
    rintro e w5 ⟨p5, c5, rfl, hls, hb5⟩
    have HLN : Hid (L.length ≤ 65536) := by show _ ≤ _; have := HLC.out; have := HNW.out; omega
    have HFL0 : Hid (FL base rb sb db vb d s v0 v0 pr cr none 0 L (.slice p5 L.length c5) w3.heap.size 0 w w5) :=
      ⟨HXW.out.below hb5, rfl, hls, (fun k _ hh => by cases hh), (by have := HAF.out; omega), HKV.out.next hb5, Nat.le_trans HKV.out.size hb5.size, HTV.out.trans (Turns.of_below (S := fun k => k = vb) hb5) (fun _ _ hS => hS), (fun k hh => by cases hh)⟩
    have hlb : L.length ≤ 65536 := HLN.out
    have hlc : L.length ≤ c5 := by
      obtain ⟨hs9, g1, _⟩ := hls.all
      obtain ⟨p1, c1, he, hs⟩ := own_sl g1
      cases he
      exact hs.le
    clear hls hb5 HBO hc0 hc2 hc5
    generalize w3.heap.size = B5 at *
    go_wp2_with fail
    go_loopw [9, 10, 11, 12, 48, 58, 62, 69] (fun _ _ _ _ j _ _ _ wr => ∃ (i : Nat) (v : VS) (pb : Option Addr) (cb : Nat) (pa : Option Addr) (ca : Nat), i ≤ L.length ∧ j = .int .i64 i ∧ FL base rb sb db vb d s v0 v pb cb pa ca L (.slice p5 L.length c5) B5 i w wr) (fun _ _ _ _ j _ _ _ _ => L.length - (intOf j).toNat)
    case atStart => exact ⟨0, v0, pr, cr, none, 0, Nat.zero_le _, rfl, by have h1 := HFL0.out; have h2 := HAF.out; exact h1⟩
    case round =>
      clear HFL0 HXW HKV HTV
      obtain ⟨i, v, pb, cb, pa, ca, hi, rfl, hfl⟩ := hrel
      have HFL := Lib.hid hfl
      clear hfl
      by_cases hlt : i < L.length
      · have hd1 : decide ((i : Int) < (L.length : Int)) = true := decide_eq_true (by omega)
        have hd2 : decide (i < L.length) = true := decide_eq_true hlt
        have hi1 : (i : Int) < (L.length : Int) := by omega
        obtain ⟨pq, cq, hv, hpt⟩ := HFL.out.ls.ls.sl
        cases hv
        obtain ⟨b, o, rfl⟩ := hpt.addr (by omega)
        obtain ⟨q, m, k, hcl, hbs⟩ := hpt.cell _ rfl i hlt
        rw [add_none] at hcl
        obtain rfl := hbs.length
        have HX65 := Lib.hid (HLB.out _ (List.getElem_mem hlt))
        have HSP := Lib.hid (split_any q k L[i] 1 (Nat.le_refl _) wr (HFL.out.kv.etype HE.out HG.out) hbs (by have := HX65.out; omega))
        have HLI : Hid (∀ b, L[i] = b → L[i] = b) := fun _ h => h
        obtain ⟨X, hX⟩ : ∃ X, L[i] = X := ⟨_, rfl⟩
        have HIX := Lib.hid (And.intro hlt hX)
        rw [hX] at HSP hcl HX65
        clear hbs HLI hX hpt
        go_wp2_with fail
        refine HSP.out.mono ?_
        rintro e w6 ⟨hb6, hcase⟩
        have HF6 := Lib.hid (HFL.out.below hb6)
        have HSZ := Lib.hid hb6.size
        have HLW := Lib.hid HFL.out.low
        have HBW : Hid (base ≤ wr.heap.size) := HFL.out.xw.sx.dx.1
        obtain ⟨-, -, hv2, -, -, hv5⟩ := vA_cells HF6.out.xw.row
        clear hb6 hcl HSP HFL
        rcases hcase with ⟨h9, pr, cr, rfl, hor⟩ | ⟨h9, ob, rfl, hob, hodd⟩
        rotate_left
        · have HST : Hid (stepV v X = none) := by show _ = _; unfold stepV; rw [if_pos (by omega)]
          have HEND := Lib.hid (HFN.out v ob w6 (HF6.out.bad HIX.out.1 HIX.out.2 HST.out) ⟨HF6.out.kv, HF6.out.tv⟩ ⟨_, _, _, _, HF6.out.xw⟩ (by have := HLW.out; omega) hodd)
          clear h9 hob hodd
          go_wp2_with fail
          go_ret
          exact HEND.out
        have hnl := n8_lt X
        have hvl := HF6.out.xw.last
        have HXL : Hid (¬ X.length < 9) := by show ¬ _; omega
        have HOR := Lib.hid hor
        clear hor h9
        obtain ⟨NN, hNN⟩ : ∃ NN, Rdr.beN (X.take 8) = NN := ⟨_, rfl⟩
        have HNN := Lib.hid hNN
        rw [hNN] at hnl ⊢
        clear hNN
        by_cases hle : NN ≤ v.last
        · have hd3 : decide ((NN : Int) ≤ (v.last : Int)) = true := decide_eq_true (by omega)
          have hd4 : decide (NN ≤ v.last) = true := decide_eq_true hle
          have HST : Hid (stepV v X = some v) := by show _ = _; unfold stepV; rw [if_neg HXL.out, HNN.out, if_pos hle]
          have HFZ := Lib.hid (HF6.out.same HIX.out.1 HIX.out.2 HST.out)
          clear hle HOR
          go_wp2_with fail
          go_roundw
          case rel => exact ⟨i + 1, v, pb, cb, pa, ca, HIX.out.1, by go_num, HFZ.out⟩
          case measure => have := HIX.out.1; simp [intOf]; omega
        · have hd3 : decide ((NN : Int) ≤ (v.last : Int)) = false := decide_eq_false (by omega)
          have hd4 : decide (NN ≤ v.last) = false := decide_eq_false hle
          have hw1 : IntKind.u64.wrap ((v.last : Int) + 1) = (v.last : Int) + 1 := by rw [IntKind.wrap_u64]; omega
          by_cases heq : NN = v.last + 1
          rotate_left
          · have q1 : ((NN : Int) == (v.last : Int) + 1) = false := beq_eq_false_iff_ne.2 (by omega)
            have q2 : ((NN : Int) != (v.last : Int) + 1) = true := bne_iff_ne.2 (by omega)
            have HST : Hid (stepV v X = none) := by show _ = _; unfold stepV; rw [if_neg HXL.out, HNN.out, if_neg hle, if_neg heq]
            have HBA := Lib.hid (HF6.out.bad HIX.out.1 HIX.out.2 HST.out)
            have hal := Below.allocs w6 (.cells #[.iface 25 (.int .i64 4)] 140)
            have hod : OddAt (w6.alloc (.cells #[.iface 25 (.int .i64 4)] 140)) w6.heap.size := heap_alloc_last w6 _
            have HEND := Lib.hid (HFN.out v w6.heap.size _ HBA.out ⟨HF6.out.kv.next hal, HF6.out.tv.trans (Turns.of_below (S := fun k => k = vb) hal) (fun _ _ hS => hS)⟩ ⟨_, _, _, _, HF6.out.xw.below hal⟩ HF6.out.low hod)
            have hBU := built_oddI
            clear hle heq hal hod HOR
            go_wp2_with (refine Rdr.wpList_build rfl 140 _ rfl [(0, .iface 25 (.int .i64 4))] rfl _ hBU ?_)
            go_ret
            exact HEND.out
          have q1 : ((NN : Int) == (v.last : Int) + 1) = true := beq_iff_eq.2 (by omega)
          have q2 : ((NN : Int) != (v.last : Int) + 1) = false := by rw [bne_eq_false_iff_eq]; omega
          have HST : Hid (stepV v X = some ⟨NN, v.some, v.body, v.after ++ [X.drop 8]⟩) := by show _ = _; unfold stepV; rw [if_neg HXL.out, HNN.out, if_neg hle, if_pos heq]
          clear hle heq
          obtain ⟨RB, hRB⟩ : ∃ RB, X.drop 8 = RB := ⟨_, rfl⟩
          rw [hRB] at HST HOR ⊢
          clear hRB
          obtain ⟨hs', hl1, hl2⟩ := HF6.out.xw.ls.all
          have hal := Below.allocs w6 (.cells #[.slice pr RB.length cr] 22)
          have HO8 := Lib.hid (own_touch hl1 (Turns.of_below (S := fun _ => False) hal) (fun _ _ h => h))
          have HX8 := Lib.hid (hdr_sl w6 (.slice pr RB.length cr) 22 w6.heap.size rfl)
          have HS8 : Hid (base ≤ (w6.alloc (.cells #[.slice pr RB.length cr] 22)).heap.size) := Nat.le_trans HF6.out.xw.sx.dx.1 hal.size
          have hva : v.after.length ≤ 65536 := by have := HF6.out.len; have := HIX.out.1; omega
          have HOX := Lib.hid (own_base (base' := base) HOR.out (fun k hk => Nat.le_trans HBW.out (own_ge HOR.out k hk)))
          clear hal
          go_wp2_with (first
            | (at_builtin; refine wpList_append_nx rfl _ _ 31 rfl (base := base) Tryz.underlying31 infoS rfl (by omega) rfl HO8.out rfl HX8.out (fun u hu => by rw [List.mem_singleton] at hu; subst hu; rfl) ⟨by omega, by omega⟩ HS8.out ?_))
          intro p9 c9 w9 ho9 hgr hnx _
          obtain ⟨hpu, hr3, hr4⟩ := HF6.out.push HIX.out.1 HIX.out.2 HST.out hnl HOX.out hl1 hl2 ho9 hgr (fun k hk => by rw [World.size_alloc]; exact hnx k hk) rfl
          have HFZ := Lib.hid hpu
          obtain ⟨-, -, hy2, -, -, -⟩ := vA_cells hr3
          have hz2 := frozen_of_row _ _ 2 _ _ hr3
          obtain ⟨-, -, -, -, -, hy5⟩ := vA_cells hr4
          have hz5 := frozen_of_row _ _ 5 _ _ hr4
          clear ho9 hgr hnx hpu hr3 hr4 hv2 hv5 hl1 hl2 HO8 HX8 HS8 HOX
          go_wp2_with fail
          go_roundw
          case rel => exact ⟨i + 1, ⟨NN, v.some, v.body, v.after ++ [RB]⟩, pb, cb, p9, c9, HIX.out.1, by go_num, HFZ.out⟩
          case measure => have := HIX.out.1; simp [intOf]; omega
      · have hd1 : decide ((i : Int) < (L.length : Int)) = false := decide_eq_false (by omega)
        have hd2 : decide (i < L.length) = false := decide_eq_false hlt
        have hrn := HFL.out.run
        rw [List.take_of_length_le (by omega)] at hrn
        have HEND := Lib.hid (HFP.out v wr hrn ⟨HFL.out.kv, HFL.out.tv⟩ ⟨_, _, _, _, HFL.out.xw⟩)
        clear hrn hlt
        go_wp2_with fail
        go_ret
        exact HEND.out
end Go.Proofs.YtnejjfglkindjaaGreatDoor.Vlt

namespace Go.Proofs.YtnejjfglkindjaaGreatDoor.Vlt
open Go.RowKit Go.Mir Go.Mir.Parts Dk Rol Wr Slt Cut
open Frm (frame scan)

theorem load_len (l : List UInt8) : (loadP l).2.length ≤ 65536 := by
  unfold loadP
  split
  · have := one_len l
    show (List.drop _ _).length ≤ _
    rw [List.length_drop]; omega
  · exact Nat.zero_le _
theorem bet_len {s : SS} {f : Nat} {l : List UInt8} (h : s.body.length ≤ 65536) : (bet s f l).body.length ≤ 65536 := by
  unfold bet
  split
  · exact load_len l
  · exact h
theorem opn_len (d : DD) (a b : Nat) : (opnS d a b).body.length ≤ 65536 := bet_len (bet_len (Nat.zero_le _))
/-- what Open fills -/
def vopF (d : DD) : Option VS := fillV (opnS d 1 2) (scan (fD (opnD d 0) 0).now).1
structure VOpenP (base db : Nat) (d : DD) (w : World) (e : Ending) (w' : World) : Prop where
  kt : KT base w w'
  say : (opnE d 0 ≠ 0 ∧ e = .returned (.tuple #[.pointer none, .int .i64 (opnE d 0)]) ∧ DX base db (opnD d 0) w') ∨
    (opnE d 0 = 0 ∧ ∃ v rb sb vb, vopF d = some v ∧ e = .returned (.tuple #[.pointer (some ⟨vb, 0, none⟩), .int .i64 0]) ∧ XV base rb sb db vb (opnD d 0) (opnS d 1 2) v w')
set_option maxRecDepth 100000 in
set_option maxHeartbeats 3200000 in
theorem vopen_any {base db : Nat} {d : DD} (w : World) (hE : Rdr.EType w) (hg : 0 < base) (hX : DX base db d w) (hdn : d.down = false) (hfew : (fD d 0).steps.length + 1 ≤ 4398046511104) (hf : opnE d 0 = 0 → vopF d ≠ none) :
    Calls Tryz.prog 7 #[.pointer (some ⟨db, 0, none⟩)] w (VOpenP base db d w) := by
  have HE := Lib.hid hE
  have HG := Lib.hid hg
  have HFN := Lib.hid hf
  have HFW := Lib.hid hfew
  have HSO := Lib.hid (sopen_any w hE hX 1 2 (by omega) (by omega) (by omega) hdn)
  clear hE hg hX hdn hf hfew
  go_enter Tryz.func7, Tryz.ntmps7
  go_wp2_with fail
  refine HSO.out.mono ?_
  rintro e w1 ⟨sb, rfl, hs1, hb1⟩
  have HS1 := Lib.hid hs1
  have HB1 := Lib.hid hb1
  have HRO := Lib.hid (open_any w1 (HE.out.below hb1 HE.out.lt) hs1.dx (i := 0) (by omega) HFW.out)
  clear hs1 hb1 HSO
  go_wp2_with fail
  refine HRO.out.mono ?_
  rintro e w2 ⟨hdx, hkt, hsay⟩
  have HS2 := Lib.hid (HS1.out.kt hkt hdx)
  have HK2 : Hid (KT base w w2) := (KT.of_below HB1.out).trans hkt
  have HD2 := Lib.hid hdx
  clear hkt hdx HRO HS1
  rcases hsay with ⟨h0, rb, rfl, hrol⟩ | ⟨h0, rfl⟩
  rotate_left
  · have q1 : (opnE d 0 == 0) = false := beq_eq_false_iff_ne.2 h0
    have q2 : (opnE d 0 != 0) = true := bne_iff_ne.2 h0
    have HV : Hid (VOpenP base db d w (.returned (.tuple #[.pointer none, .int .i64 (opnE d 0)])) w2) := ⟨HK2.out, .inl ⟨h0, rfl, HD2.out⟩⟩
    clear h0
    generalize opnE d 0 = EE at *
    go_wp2_with fail
    go_ret2
    exact HV.out
  have HV : Hid (∀ (v : VS) (vb : Nat) (w' : World), KT base w w' → vopF d = some v → XV base rb sb db vb (opnD d 0) (opnS d 1 2) v w' → VOpenP base db d w (.returned (.tuple #[.pointer (some ⟨vb, 0, none⟩), .int .i64 0])) w') := fun v vb w' h1 h2 h3 => ⟨h1, .inr ⟨h0, v, rb, sb, vb, h2, rfl, h3⟩⟩
  have HNN := Lib.hid (HFN.out h0)
  have HBO := Lib.hid (opn_body d 1 2)
  have HLN := Lib.hid (opn_len d 1 2)
  have HVF : Hid (vopF d = fillV (opnS d 1 2) (scan (fD (opnD d 0) 0).now).1) := rfl
  have hal := Below.allocs w2 (.cells (vA rb sb VS.zero none 0 none 0) 33)
  have HXW : Hid (XW base rb sb db w2.heap.size (opnD d 0) (opnS d 1 2) VS.zero none 0 none 0 (w2.alloc (.cells (vA rb sb VS.zero none 0 none 0) 33))) :=
    ⟨HS2.out.below hal, hrol.below hal, HD2.out.1, by show 0 < _; omega, heap_alloc_last w2 _, .inl ⟨rfl, rfl⟩, LsO.nil _ _⟩
  have HK3 := Lib.hid (HK2.out.next hal)
  have HSZ2 : Hid (w.heap.size ≤ w2.heap.size) := HK2.out.size
  have hbv := built_v rb sb
  clear h0 hal hrol HS2 HK2 HD2 HFN HFW HB1
  go_upto_region 8 with (refine Rdr.wpList_build rfl 33 _ rfl [(0, .pointer (some ⟨rb, 0, none⟩)), (1, .pointer (some ⟨sb, 0, none⟩))] rfl _ hbv ?_)
  generalize w2.alloc (.cells (vA rb sb VS.zero none 0 none 0) 33) = w3 at *
  generalize w2.heap.size = vb at *
  have HFI := Lib.hid (fill_any w3 (HK3.out.etype HE.out HG.out) HG.out HXW.out HBO.out (by have := HLN.out; omega))
  clear hbv HXW
  go_wp2_with fail
  refine HFI.out.mono ?_
  rintro e w4 ⟨-, hk4, hcase⟩
  rw [← HVF.out] at hcase
  rcases hcase with ⟨v, hv, rfl, hxv⟩ | ⟨hv, _⟩
  rotate_left
  · exact absurd hv HNN.out
  have hal := Below.allocs w4 (.cells #[.pointer none] 94)
  obtain ⟨pb, cb, pa, ca, hx⟩ := hxv
  have HEND := Lib.hid (HV.out v vb _ (KT.next (Turns.trans HK3.out hk4 (fun k hk hS => by have := HSZ2.out; have hS : k = vb := hS; omega)) hal) hv ⟨pb, cb, pa, ca, hx.below hal⟩)
  clear hk4 hv hx hal HFI HV
  go_wp2_with fail
  refine (Er.as_nil _ _).mono ?_
  rintro e w' ⟨rfl, rfl⟩
  go_wp2_with fail
  go_ret2
  exact HEND.out
end Go.Proofs.YtnejjfglkindjaaGreatDoor.Vlt

namespace Go.Proofs.YtnejjfglkindjaaGreatDoor.Vlt
open Go.RowKit Go.Mir Go.Mir.Parts Dk Rol Wr Slt Cut
open Frm (frame scan)

theorem vnone_any {base rb sb db vb : Nat} {d : DD} {s : SS} {v : VS} (w : World) (h : XV base rb sb db vb d s v w) :
    Calls Tryz.prog 38 #[.pointer (some ⟨vb, 0, none⟩)] w fun e w' => e = .returned (.bool false) ∧ w = w' := by
  obtain ⟨pb, cb, pa, ca, h⟩ := h
  obtain ⟨hc0, -⟩ := vA_cells h.row
  clear h
  go_enter Tryz.func38, Tryz.ntmps38
  go_wp2_with fail
  go_ret
  exact ⟨rfl, rfl⟩
theorem vnext_any {base rb sb db vb : Nat} {d : DD} {s : SS} {v : VS} (w : World) (h : XV base rb sb db vb d s v w) (hl : v.last + 1 < 18446744073709551616) :
    Calls Tryz.prog 11 #[.pointer (some ⟨vb, 0, none⟩)] w fun e w' => e = .returned (.int .u64 ((v.last : Int) + 1)) ∧ w = w' := by
  have HN := Lib.hid (vnone_any w h)
  obtain ⟨pb, cb, pa, ca, h⟩ := h
  obtain ⟨-, -, hc2, -⟩ := vA_cells h.row
  clear h
  go_enter Tryz.func11, Tryz.ntmps11
  go_wp2_with fail
  refine HN.out.mono ?_
  rintro e w' ⟨rfl, rfl⟩
  go_wp2_with fail
  go_ret
  exact ⟨rfl, rfl⟩
theorem vsize_any {base rb sb db vb : Nat} {d : DD} {s : SS} {v : VS} (w : World) (h : XV base rb sb db vb d s v w) :
    Calls Tryz.prog 10 #[.pointer (some ⟨vb, 0, none⟩)] w fun e w' => e = .returned (.int .i64 ((fD d 0).now.length : Int)) ∧ Below w.heap.size w w' := by
  have HN := Lib.hid (vnone_any w h)
  obtain ⟨pb, cb, pa, ca, h⟩ := h
  obtain ⟨hc0, -⟩ := vA_cells h.row
  have HSZ := Lib.hid (size_any w h.sx.dx h.rol (by omega))
  clear h
  go_enter Tryz.func10, Tryz.ntmps10
  go_wp2_with fail
  refine HN.out.mono ?_
  rintro e w' ⟨rfl, rfl⟩
  go_wp2_with fail
  refine HSZ.out.mono ?_
  rintro e w' ⟨rfl, hb⟩
  go_wp2_with fail
  go_ret
  exact ⟨rfl, hb⟩
def SnapP (v : VS) (w : World) (e : Ending) (w' : World) : Prop := ∃ p c, e = .returned (.tuple #[.slice p v.body.length c, .bool v.some]) ∧ w'.ownsRow w.heap.size 5 1 (.slice p v.body.length c) v.body.length (bytesV v.body) ∧ Below w.heap.size w w'
set_option maxRecDepth 100000 in
set_option maxHeartbeats 1600000 in
theorem vsnap_any {base rb sb db vb : Nat} {d : DD} {s : SS} {v : VS} (w : World) (h : XV base rb sb db vb d s v w) (hl : v.body.length ≤ 140737488355328) :
    Calls Tryz.prog 8 #[.pointer (some ⟨vb, 0, none⟩)] w (SnapP v w) := by
  have HN := Lib.hid (vnone_any w h)
  obtain ⟨pb, cb, pa, ca, h⟩ := h
  have HC3 : Hid (∀ w', Below w.heap.size w w' → w'.cell? ⟨vb, 3, none⟩ = some (.bool v.some)) := fun w' hb => cell_below (vA_cells h.row).2.2.2.1 hb
  have HC4 : Hid (∀ w', Below w.heap.size w w' → w'.cell? ⟨vb, 4, none⟩ = some (.slice pb v.body.length cb)) := fun w' hb => cell_below (vA_cells h.row).2.2.2.2.1 hb
  obtain ⟨p', c', e1, hbs⟩ := h.rd.bs
  cases e1
  have HBS := Lib.hid hbs
  have hle := hbs.le
  have hmax := hbs.max
  have HSN : Hid (∀ p c w', w'.ownsRow w.heap.size 5 1 (.slice p v.body.length c) v.body.length (bytesV v.body) → Below w.heap.size w w' → SnapP v w (.returned (.tuple #[.slice p v.body.length c, .bool v.some])) w') := fun p c w' h1 h2 => ⟨p, c, rfl, h1, h2⟩
  clear h hbs
  generalize v.some = vs at *
  generalize v.body = B at *
  generalize hm : B.length = m at *
  clear hm
  go_enter Tryz.func8, Tryz.ntmps8
  go_wp2_with fail
  refine HN.out.mono ?_
  rintro e w' ⟨rfl, rfl⟩
  go_upto_region 3 with fail
  refine wp_region_tree (Below w.heap.size w) (.take 0 (.take 1 (.take 2 (.take 3 (.take 5 (.take 6 (.take 7 (.take 8 (.one 4 (.take 9 (.take 10 .nil))))))))))) (by kernel_rfl) (by kernel_rfl) (below_drew1 _ _) ?_
  have hy0 : Below w.heap.size w w.drew := below_drew1 _ _
  repeat (first
    | (apply tree_take; (· rfl); (· rfl); (· (intro w' hb'; go_simp; try with_reducible rfl)); try simp only [Act.put, List.setIfInBounds_toArray, List.set_cons_zero, List.set_cons_succ])
    | (apply tree_take; (· rfl); (· rfl); (· (intro w' hb'; have hk' := (HC3.out) w' hb'; go_simp; try with_reducible rfl)); try simp only [Act.put, List.setIfInBounds_toArray, List.set_cons_zero, List.set_cons_succ])
    | (apply tree_take; (· rfl); (· rfl); (· (intro w' hb'; have hk' := (HC4.out) w' hb'; go_simp; try with_reducible rfl)); try simp only [Act.put, List.setIfInBounds_toArray, List.set_cons_zero, List.set_cons_succ]))
  have HBD := Lib.hid (HBS.out.below hy0)
  have HY := Lib.hid hy0
  clear hy0
  refine tree_one rfl (by rfl) (fun K hK => oper_of_list rfl ?_)
  refine wpList_append_nx rfl _ _ 22 rfl (base := w.heap.size) Tryz.underlying22 info8 rfl (by omega) (v := .slice none 0 0) rfl (World.ownsRow_nil _ _ _ _) rfl HBD.out (bytesV_one _) ⟨by omega, by omega⟩ (Nat.le_refl _) ?_
  intro p9 c9 w9 ho9 hg9 _ _
  have hb9 : Below w.heap.size w w9 := HY.out.grown hg9 (Nat.le_refl _) (fun k hk => by simp [Value.ownBlock] at hk)
  have HX := Lib.hid (HSN.out p9 c9 w9 (by simpa using ho9) hb9)
  refine only_end (Shut.out hK _ _ hb9 ?_)
  clear hK K ho9 hg9 hb9
  try simp only [Act.put, List.setIfInBounds_toArray, List.set_cons_zero, List.set_cons_succ]
  repeat (apply tree_take; (· rfl); (· rfl); (· (intro w' hb'; go_simp; try with_reducible rfl)); try simp only [Act.put, List.setIfInBounds_toArray, List.set_cons_zero, List.set_cons_succ])
  refine tree_nil ?_
  go_wp2_with fail
  go_ret2
  simpa using HX.out
end Go.Proofs.YtnejjfglkindjaaGreatDoor.Vlt
