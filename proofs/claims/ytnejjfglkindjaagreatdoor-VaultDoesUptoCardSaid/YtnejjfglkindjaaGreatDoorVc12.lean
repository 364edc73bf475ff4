/- PARTS, JOINED: THE REFERENCE'S VAULTS: Compact. Conditions: at most 2900 bytes in a snapshot. THE REFERENCE'S VAULTS: Open. Conditions: a disk that is up; sizes that fit. -/
import Derived.Test.YtnejjfglkindjaaGreatDoorVc1
import Derived.Test.YtnejjfglkindjaaGreatDoorVc2
import Derived.Test.YtnejjfglkindjaaGreatDoorVc3
import Derived.Test.YtnejjfglkindjaaGreatDoorVc4
import Derived.Test.YtnejjfglkindjaaGreatDoorVc5
import Derived.Test.YtnejjfglkindjaaGreatDoorVc6
import Derived.Test.YtnejjfglkindjaaGreatDoorVc7
import Derived.Test.YtnejjfglkindjaaGreatDoorVc8
import Derived.Test.YtnejjfglkindjaaGreatDoorVc9
import Derived.Test.YtnejjfglkindjaaGreatDoorVc10
import Derived.Test.YtnejjfglkindjaaGreatDoorVc11
namespace Go.Proofs.YtnejjfglkindjaaGreatDoor.Vlt
open Go.RowKit Go.Mir Go.Mir.Parts Dk Rol Wr Slt Cut Rk
open Frm (frame scan)
def RVCompP (_T : List RF) (d : DD) (s : SS) (_ps : Option Addr) (_cs : Nat) (v : VS) (_pb : Option Addr) (_cb : Nat) (pa : Option Addr) (ca : Nat) (x : List UInt8) (w : World) (e : Ending) (w' : World) : Prop :=
 ∃ T' ps' cs' pb' cb' pa' ca', e = .returned (.tuple #[.agg (rvA T' (vcD d s v x) (vcS d s v x) ps' cs' (vcV d s v x) pb' cb' pa' ca'), .int .i64 (vcE d s v x)]) ∧ RVR w' T' (vcD d s v x) (vcS d s v x) ps' cs' (vcV d s v x) pb' cb' pa' ca' ∧ Below w.heap.size w w' ∧ ∀ k, (Value.slice pa' (vcV d s v x).after.length ca').ownBlock = some k → (Value.slice pa v.after.length ca).ownBlock = some k
theorem rv_store9 {w : World} {g : Nat} {T : List RF} {d : DD} {s s' : SS} {ps ps' : Option Addr} {cs cs' : Nat} {v : VS} {pb : Option Addr} {cb : Nat} {pa : Option Addr} {ca : Nat} (hr : w.heap[g]? = some (.cells (rvA T d s ps cs v pb cb pa ca) 76 (0, 0))) (hs : RBs w ps' s'.body.length cs' s'.body) (h : RVR w T d s ps cs v pb cb pa ca) :
  (w.setCells g 9 (rsA 1 2 s' ps' cs').toList).heap[g]? = some (.cells (rvA T d s' ps' cs' v pb cb pa ca) 76 (0, 0)) ∧ RVR (w.setCells g 9 (rsA 1 2 s' ps' cs').toList) T d s' ps' cs' v pb cb pa ca ∧ Turns (fun k => k = g) w (w.setCells g 9 (rsA 1 2 s' ps' cs').toList) := by
 have h1 := h.rd.n3
 have h2 := h.rd.m3
 have ht := turns_setCells g (rsA 1 2 s' ps' cs').toList 9 w w (Turns.refl _ _)
 have hk := kr_turn (base := 0) ht hr (by decide) (by decide)
 refine ⟨?_, ⟨h.rd.step hk, hs.step hk, h.vb.step hk, lsR_off h.af ht (fun k M' t fr hkk hm => ?_) hk⟩, ht⟩
 ·have hr' : w.heap[g]? = some (.cells (rvA T d s ps cs v pb cb pa ca).toList.toArray 76 (0, 0)) := by rw [Array.toArray_toList]; exact hr
  have := heap_setCells_row g _ (rsA 1 2 s' ps' cs').toList 9 w _ hr' (by rw [Array.length_toList, Array.length_toList, rvA_size h1 h2]; show 9 + 5 ≤ 18; omega)
  rw [rv_slots h1 h2, Array.toArray_toList] at this
  exact this
 ·subst hkk
  rw [hr] at hm
  injection hm with e1
  injection e1 with _ e2
  subst e2
  decide
theorem rv_cell {w : World} {g : Nat} {T : List RF} {d : DD} {s : SS} {ps : Option Addr} {cs : Nat} {v v' : VS} {pb pb' : Option Addr} {cb cb' : Nat} {pa pa' : Option Addr} {ca ca' : Nat} (off j : Nat) (u : Value) (ho : off = 14 + j) (hr : w.heap[g]? = some (.cells (rvA T d s ps cs v pb cb pa ca) 76 (0, 0))) (hrd : RDB w T d) (hsb : RBs w ps s.body.length cs s.body)
  (hs : [Value.int .u64 (v.last : Int), .bool v.some, .slice pb v.body.length cb, .slice pa v.after.length ca].set j u = [Value.int .u64 (v'.last : Int), .bool v'.some, .slice pb' v'.body.length cb', .slice pa' v'.after.length ca']) (hb : RBs w pb' v'.body.length cb' v'.body) (ha : LsR w (.slice pa' v'.after.length ca') v'.after) :
  (w.setCell ⟨g, off, none⟩ u).heap[g]? = some (.cells (rvA T d s ps cs v' pb' cb' pa' ca') 76 (0, 0)) ∧ RVR (w.setCell ⟨g, off, none⟩ u) T d s ps cs v' pb' cb' pa' ca' ∧ Turns (fun k => k = g) w (w.setCell ⟨g, off, none⟩ u) := by
 subst ho
 have ht : Turns (fun k => k = g) w (w.setCell ⟨g, 14 + j, none⟩ u) := (Turns.refl (fun k => k = g) w).setCell (p := ⟨g, 14 + j, none⟩) (fun _ => rfl) _
 have hk := kr_turn (base := 0) ht hr (by decide) (by decide)
 have hrow := Dk.cell_put (off := 14 + j) u hr
 rw [rv_set hrd.n3 hrd.m3 s ps cs v pb cb pa ca j u v' pb' cb' pa' ca' hs] at hrow
 refine ⟨hrow, ⟨hrd.step hk, hsb.step hk, hb.step hk, lsR_off ha ht (fun k M' t fr hkk hm => ?_) hk⟩, ht⟩
 subst hkk
 rw [hr] at hm
 injection hm with e1
 injection e1 with _ e2
 subst e2
 decide
def MidC (_T : List RF) (b0 : Nat) (w1 : World) (D : DD) (S : SS) (E : Int) (a0 a : Act) (y : World) : Prop :=
 ∃ T' ps' cs' g6 g7 p1 c1 n2 p2 c2 v14 v15 v16 v17 v18 v19 v21, a = ((((((((((((((((((a0.put (some 14) v14).put (some 15) v15).put (some 16) v16).put (some 17) v17).put (some 18) v18).put (some 19) v19).put (some 20) (.slice p1 8 c1)).put (some 21) v21).put (some 22) (.slice p2 n2 c2)).put (some 23) (.tuple #[.agg (rdA T' D), .agg (rsA 1 2 S ps' cs'), .int .i64 E])).put (some 13) (.tuple #[.agg (rdA T' D), .agg (rsA 1 2 S ps' cs'), .int .i64 E])).put (some 24) (.agg (rdA T' D))).put (some 25) (.agg (rsA 1 2 S ps' cs'))).put (some 26) (.int .i64 E)).put (some 6) (.pointer (some ⟨g6, 0, none⟩))).put (some 7) (.pointer (some ⟨g7, 0, none⟩))).put none undef).put (some 8) (.int .i64 E)) ∧
  Below b0 w1 y ∧ b0 ≤ g6 ∧ y.heap[g6]? = some (.cells (rdA T' D) 65 (0, 0)) ∧ y.heap[g7]? = some (.cells (rsA 1 2 S ps' cs') 74 (0, 0)) ∧ RDB y T' D ∧ RBs y ps' S.body.length cs' S.body
def tcC311 : Tr3 := .one 16 (.one 17 (.take 18 .nil))
def tcC211 : Tr3 := .one 9 (.take 10 (.take 11 (.take 12 (.take 13 tcC311))))
def tcC301 : Tr3 := .one 14 tcC311
def tcC310 : Tr3 := .one 15 tcC311
def tcC111 : Tr3 := .one 8 tcC211
def tcC201 : Tr3 := .two 9 14 (.take 10 (.take 11 (.take 12 (.take 13 tcC301)))) tcC211
def tcC210 : Tr3 := .two 9 15 (.take 10 (.take 11 (.take 12 (.take 13 tcC310)))) tcC211
def tcC300 : Tr3 := .two 14 15 tcC310 tcC301
def tcC011 : Tr3 := .one 6 tcC111
def tcC101 : Tr3 := .two 8 14 tcC201 tcC111
def tcC110 : Tr3 := .two 8 15 tcC210 tcC111
def tcC200 : Tr3 := .three 9 14 15 (.take 10 (.take 11 (.take 12 (.take 13 tcC300)))) tcC210 tcC201
def tcC001 : Tr3 := .two 6 14 tcC101 tcC011
def tcC010 : Tr3 := .two 6 15 tcC110 tcC011
def tcC100 : Tr3 := .three 8 14 15 tcC200 tcC110 tcC101
def tcC000 : Tr3 := .three 6 14 15 tcC100 tcC010 tcC001
theorem boxes_neR {X : World} {rg xg : Nat} {M M2 : Array Value} (h1 : X.heap[rg]? = some (.cells M 65 (0, 0))) (h2 : X.heap[xg]? = some (.cells M2 74 (0, 0))) : ¬ xg = rg := fun e => by
 rw [e, h1] at h2
 injection h2 with e1
 injection e1 with _ e2
 exact absurd e2 (by decide)
theorem midC_of {T : List RF} {w1 : World} {D : DD} {S : SS} {E : Int} {a0 : Act} (n2 : Nat) : ∀ (T' : List RF) (ps' : Option Addr) (cs' g6 g7 : Nat) (Y : World) (p1 : Option Addr) (c1 : Nat) (p2 : Option Addr) (c2 : Nat) (v14 v15 v16 v17 v18 v19 v21 : Value) (a : Act), Below w1.heap.size w1 Y → w1.heap.size ≤ g6 → w1.heap.size ≤ g7 →
  Y.heap[g6]? = some (.cells zD 65 (0, 0)) → Y.heap[g7]? = some (.cells zS 74 (0, 0)) → RDB Y T' D → RBs Y ps' S.body.length cs' S.body →
  a = ((((((((((((((((((a0.put (some 14) v14).put (some 15) v15).put (some 16) v16).put (some 17) v17).put (some 18) v18).put (some 19) v19).put (some 20) (.slice p1 8 c1)).put (some 21) v21).put (some 22) (.slice p2 n2 c2)).put (some 23) (.tuple #[.agg (rdA T' D), .agg (rsA 1 2 S ps' cs'), .int .i64 E])).put (some 13) (.tuple #[.agg (rdA T' D), .agg (rsA 1 2 S ps' cs'), .int .i64 E])).put (some 24) (.agg (rdA T' D))).put (some 25) (.agg (rsA 1 2 S ps' cs'))).put (some 26) (.int .i64 E)).put (some 6) (.pointer (some ⟨g6, 0, none⟩))).put (some 7) (.pointer (some ⟨g7, 0, none⟩))).put none undef).put (some 8) (.int .i64 E)) →
  MidC T w1.heap.size w1 D S E a0 a ((Y.setRow g6 (rdA T' D)).setRow g7 (rsA 1 2 S ps' cs')) := fun T' ps' cs' g6 g7 Y p1 c1 p2 c2 v14 v15 v16 v17 v18 v19 v21 a hY h6 h7 k6 k7 hr hb ha => by
 have hne := boxes_neR k6 k7
 have t1 := turns_setRow Y g6 (rdA T' D)
 have z1 := setRow_heap Y g6 _ (rdA T' D) _ _ k6
 have z2 := t1.keep k7 hne
 have r1 := kr_turn (base := 0) t1 k6 (by decide) (by decide)
 have b1 := below_setRow hY h6 (rdA T' D)
 generalize Y.setRow g6 (rdA T' D) = Y1 at *
 have t2 := turns_setRow Y1 g7 (rsA 1 2 S ps' cs')
 have r2 := kr_turn (base := 0) t2 z2 (by decide) (by decide)
 exact ⟨T', ps', cs', g6, g7, p1, c1, n2, p2, c2, v14, v15, v16, v17, v18, v19, v21, ha, below_setRow b1 h7 _, h6, t2.keep z1 (fun e => hne e.symm), setRow_heap _ _ _ _ _ _ z2, hr.step (r1.trans r2), hb.step (r1.trans r2)⟩
set_option maxRecDepth 100000 in
set_option maxHeartbeats 6400000 in
theorem rvcomp_ok (T : List RF) (d : DD) (s : SS) (ps : Option Addr) (cs : Nat) (v : VS) (pb : Option Addr) (cb : Nat) (pa : Option Addr) (ca N : Nat) (p : Option Addr) (c : Nat) (x : List UInt8) (w : World) (h : RVR w T d s ps cs v pb cb pa ca) (hg : Gd d N) (hN : N ≤ 4398046000000 / 4) (hst : s.turn < 18446744073709551616) (hl : v.last < 18446744073709551616) (hB : Bs w p x.length c x) (hx : x.length ≤ 2900) :
  Calls Tryz.prog 30 #[.agg (rvA T d s ps cs v pb cb pa ca), .slice p x.length c] w (RVCompP T d s ps cs v pb cb pa ca x w) := by
 have hz := zeroRV
 have hzd := zeroD
 have hzs := zeroRS
 have h1 := h.rd.n3
 have h2 := h.rd.m3
 have HN3 := Lib.hid h1
 have HM3 := Lib.hid h2
 have HSZ := Lib.hid (rvA_size h1 h2 s ps cs v pb cb pa ca)
 have HONE := Lib.hid (rvA_one h1 h2 s ps cs v pb cb pa ca)
 have hal1 := Below.allocs w (.cells (rvA T d s ps cs v pb cb pa ca) 76)
 have hrow := heap_alloc_last w (.cells (rvA T d s ps cs v pb cb pa ca) 76)
 have hal2 := Below.allocs (w.alloc (.cells (rvA T d s ps cs v pb cb pa ca) 76)) (.cells zRV 76)
 have hrow2 := heap_alloc_last (w.alloc (.cells (rvA T d s ps cs v pb cb pa ca) 76)) (.cells zRV 76)
 have hsz : (w.alloc (.cells (rvA T d s ps cs v pb cb pa ca) 76)).heap.size = w.heap.size + 1 := by simp
 rw [hsz] at hrow2
 have hlow := hal1.trans (hal2.mono hal1.size)
 have HROW := Lib.hid (Below.keepOld hal2 hrow)
 have HZX := Lib.hid hrow2
 have HLOW := Lib.hid hlow
 have HRV := Lib.hid (h.below hlow)
 have HBS := Lib.hid (hB.below hlow)
 have HBW0 := Lib.hid hB
 have hle := hB.le
 have hmx := hB.max
 have d2 : decide ((60000 : Int) < (x.length : Int)) = false := decide_eq_false (by omega)
 have d2' : decide (60000 < x.length) = false := decide_eq_false (by omega)
 have HXL : Hid (x.length ≤ 60000) := by show _ ≤ _; omega
 have HRL : Hid ((vcR v x).length = 8 + x.length) := by show _ = _; unfold vcR; rw [List.length_append, be_length]
 have HLA := Lib.hid hl
 have HPUT0 : Hid (∀ (p2 : Option Addr) (c2 : Nat) (y : World), RVR y T d s ps cs v pb cb pa ca → Bs y p2 (vcR v x).length c2 (vcR v x) → Calls Tryz.prog 60 #[.agg (rdA T d), .agg (rsA 1 2 s ps cs), .slice p2 (vcR v x).length c2] y (RPuP d s 1 2 (vcR v x) y)) := fun p2 c2 y hy hb => rputS_any T d s 1 2 N (by omega) (by omega) ps cs y hy.rd hy.sb hg hN p2 (vcR v x) c2 hb (by rw [HRL.out]; omega) hst
 have HCLR0 : Hid (∀ (T' : List RF) (y : World), putSE d s 1 2 (vcR v x) = 0 → RDB y T' (putSD d s 1 2 (vcR v x)) → Calls Tryz.prog 61 #[.agg (rdA T' (putSD d s 1 2 (vcR v x))), .int .i64 0] y (ROut (clrD (putSD d s 1 2 (vcR v x)) 0 0) (clrE (putSD d s 1 2 (vcR v x)) 0 0) y)) := fun T' y _ hy => rclr_any T' _ 0 (by omega) y hy (putS_used h.rd.m3 (fun i hi => Slt.RDB.okF h.rd hi) hg.used (by rw [HRL.out]; omega)) (by have := fewfd (i := 0) (few_putSD hg.few (s := s) (a := 1) (b := 2) (x := vcR v x)); omega)
 have HVE : Hid (vcE d s v x = if putSE d s 1 2 (vcR v x) = 0 then clrE (putSD d s 1 2 (vcR v x)) 0 0 else putSE d s 1 2 (vcR v x)) := by show _ = _; unfold vcE; rw [if_pos HXL.out]
 have HVD : Hid (vcD d s v x = if putSE d s 1 2 (vcR v x) = 0 then clrD (putSD d s 1 2 (vcR v x)) 0 0 else putSD d s 1 2 (vcR v x)) := by show _ = _; unfold vcD; rw [if_pos HXL.out]
 have HVS : Hid (vcS d s v x = putSS d s 1 2 (vcR v x)) := by show _ = _; unfold vcS; rw [if_pos HXL.out]
 have HVV : Hid (vcV d s v x = if putSE d s 1 2 (vcR v x) = 0 then ⟨v.last, true, x, []⟩ else v) := by
  show _ = _
  unfold vcV
  by_cases he : putSE d s 1 2 (vcR v x) = 0
  ·rw [if_pos he, if_pos ⟨HXL.out, he⟩]
  ·rw [if_neg he, if_neg (fun hh => he hh.2)]
 clear h hal1 hrow hal2 hrow2 hsz hlow hB hg hN hst hl h1 h2
 go_enter Tryz.func30, Tryz.ntmps30
 go_upto_region 1 with fail
 generalize (w.alloc (.cells (rvA T d s ps cs v pb cb pa ca) 76)).alloc (.cells zRV 76) = w1 at *
 go_upto_region 3 with fail
 clear d2 d2'
 have HC14 : Hid (∀ y, Below w1.heap.size w1 y → y.cell? ⟨w.heap.size, 14, none⟩ = some (.int .u64 (v.last : Int))) := fun y hy => (rv_cells HN3.out HM3.out (Below.keepOld hy HROW.out)).1
 have HPUT : Hid (∀ (p2 : Option Addr) (c2 : Nat) (y : World), Below w1.heap.size w1 y → Bs y p2 (vcR v x).length c2 (vcR v x) → Calls Tryz.prog 60 #[.agg (rdA T d), .agg (rsA 1 2 s ps cs), .slice p2 (vcR v x).length c2] y (RPuP d s 1 2 (vcR v x) y)) := fun p2 c2 y hy hb => HPUT0.out p2 c2 y (HRV.out.below hy) hb
 have HNUM : Hid (∀ y, Calls Tryz.prog 22 #[.int .u64 (v.last : Int), .int .i64 8] y fun e w' => ∃ p c, e = .returned (.slice p 8 c) ∧ w'.ownsRow y.heap.size 5 1 (.slice p 8 c) 8 (bytesV (be v.last 8)) ∧ Below y.heap.size y w') := fun y => number8 y v.last HLA.out
 clear HPUT0
 unfold RPuP at HPUT
 generalize putSD d s 1 2 (vcR v x) = D9 at *
 generalize putSS d s 1 2 (vcR v x) = S9 at *
 generalize putSE d s 1 2 (vcR v x) = E9 at *
 refine wp_mid (MidC T w1.heap.size w1 D9 S9 E9) ?_ ?_
 ·refine wp_region_tree3 (Below w1.heap.size w1) (.take 0 (.take 1 (.take 2 (.take 3 (.take 4 (.take 5 (.take 7 tcC000))))))) (by kernel_rfl) (by kernel_rfl) (below_drew1 _ _) ?_
  have hy0 : Below w1.heap.size w1 w1.drew := below_drew1 _ _
  generalize w1.drew = y0 at *
  (apply tree3_take; (· rfl); (· rfl); (· (intro w' hb'; go_simp; try with_reducible rfl)); try simp only [Act.put, zA, zB, zC])
  refine tree3_load rfl (by rfl) 65 _ rfl w.heap.size 0 rfl (rdA T d) _ (fun w' hb => rv_range0 (Below.keepOld hb HROW.out)) Tryz.underlying65 rfl (infoRD _ (rdA_size HN3.out HM3.out)) ?_
  try simp only [Act.put, zA, zB, zC]
  (apply tree3_take; (· rfl); (· rfl); (· (intro w' hb'; go_simp; try with_reducible rfl)); try simp only [Act.put, zA, zB, zC])
  refine tree3_load rfl (by rfl) 74 _ rfl w.heap.size 9 rfl (rsA 1 2 s ps cs) _ (fun w' hb => rv_range9 HN3.out HM3.out (Below.keepOld hb HROW.out)) Tryz.underlying74 rfl (infoRS _ rfl) ?_
  try simp only [Act.put, zA, zB, zC]
  (apply tree3_take; (· rfl); (· rfl); (· (intro w' hb'; go_simp; try with_reducible rfl)); try simp only [Act.put, zA, zB, zC])
  (apply tree3_take; (· rfl); (· rfl); (· (intro w' hb'; have hk' := (HC14.out) w' hb'; go_simp; try with_reducible rfl)); try simp only [Act.put, zA, zB, zC])
  (apply tree3_take; (· rfl); (· rfl); (· (intro w' hb'; go_simp; try with_reducible rfl)); try simp only [Act.put, zA, zB, zC])
  refine tree3_key (fun a0 a' Y => ∃ (p1 : Option Addr) (c1 : Nat) (p2 : Option Addr) (c2 : Nat) (T' : List RF) (ps' : Option Addr) (cs' : Nat) (g6 : Nat) (g7 : Nat), a' = (((((((((a0.put (some 20) (.slice p1 8 c1)).put (some 22) (.slice p2 (8 + x.length) c2)).put (some 23) (.tuple #[.agg (rdA T' D9), .agg (rsA 1 2 S9 ps' cs'), .int .i64 E9])).put (some 13) (.tuple #[.agg (rdA T' D9), .agg (rsA 1 2 S9 ps' cs'), .int .i64 E9])).put (some 24) (.agg (rdA T' D9))).put (some 25) (.agg (rsA 1 2 S9 ps' cs'))).put (some 26) (.int .i64 E9)).put (some 6) (.pointer (some ⟨g6, 0, none⟩))).put (some 7) (.pointer (some ⟨g7, 0, none⟩))) ∧ Below w1.heap.size w1 Y ∧ RDB Y T' D9 ∧ RBs Y ps' S9.body.length cs' S9.body ∧ w1.heap.size ≤ g6 ∧ Y.heap[g6]? = some (.cells zD 65 (0, 0)) ∧ w1.heap.size ≤ g7 ∧ Y.heap[g7]? = some (.cells zS 74 (0, 0))) tcC311 ?_ ?_
  ·rintro a' Y ⟨p1, c1, p2, c2, T', ps', cs', g6, g7, ha, hY, hrd, hrb, hl6, hg6, hl7, hg7⟩
   rw [ha]
   clear ha a'
   try simp only [Act.put, zA, zB, zC]
   unfold tcC311
   have HRD := Lib.hid hrd
   have HRB := Lib.hid hrb
   have HG6 := Lib.hid hg6
   have HL6 := Lib.hid hl6
   have HG7 := Lib.hid hg7
   have HL7 := Lib.hid hl7
   clear hrd hrb hl6 hg6 hl7 hg7
   refine tree3_one rfl (by rfl) (fun K hK => oper_of_list rfl ?_)
   refine wpList_store_row rfl 65 _ _ rfl g6 (rdA T' D9) rfl rfl 65 zD HG6.out (infoRD _ (rdA_size HRD.out.n3 HRD.out.m3)) (by rw [rdA_size HRD.out.n3 HRD.out.m3]; rfl) (rdA_one HRD.out.n3 HRD.out.m3) ?_
   refine only_end (Shut.out hK _ _ (below_setRow hY HL6.out (rdA T' D9)) ?_)
   clear hK K
   try simp only [Act.put]
   have HG7B : Hid ((Y.setRow g6 (rdA T' D9)).heap[g7]? = some (.cells zS 74 (0, 0))) := (turns_setRow Y g6 (rdA T' D9)).keep HG7.out (boxes_neR HG6.out HG7.out)
   refine tree3_one rfl (by rfl) (fun K hK => oper_of_list rfl ?_)
   refine wpList_store_row rfl 74 _ _ rfl g7 (rsA 1 2 S9 ps' cs') rfl rfl 74 zS HG7B.out (infoRS _ rfl) rfl (rsA_one _ _ _ _ _) ?_
   refine only_end (Shut.out hK _ _ (below_setRow (below_setRow hY HL6.out (rdA T' D9)) HL7.out (rsA 1 2 S9 ps' cs')) ?_)
   clear hK K
   try simp only [Act.put]
   (apply tree3_take; (· rfl); (· rfl); (· (intro w' hb'; go_simp; try with_reducible rfl)); try simp only [Act.put, zA, zB, zC])
   refine tree3_nil ?_
   refine ⟨rfl, midC_of (8 + x.length) T' ps' cs' g6 g7 Y p1 c1 p2 c2 (.pointer (some ⟨w.heap.size, 0, none⟩)) (.agg (rdA T d)) (.pointer (some ⟨w.heap.size, 9, none⟩)) (.agg (rsA 1 2 s ps cs)) (.pointer (some ⟨w.heap.size, 14, none⟩)) (.int .u64 (v.last : Int)) (.slice p x.length c) _ hY HL6.out HL7.out HG6.out HG7.out HRD.out HRB.out ?_⟩
   simp only [Act.put, zA, zB, zC]
  intro K311
  refine tree3_key (fun a0 a' Y => ∃ (p1 : Option Addr) (c1 : Nat) (p2 : Option Addr) (c2 : Nat) (g6 : Nat) (g7 : Nat), a' = ((((a0.put (some 20) (.slice p1 8 c1)).put (some 22) (.slice p2 (8 + x.length) c2)).put (some 6) (.pointer (some ⟨g6, 0, none⟩))).put (some 7) (.pointer (some ⟨g7, 0, none⟩))) ∧ Below w1.heap.size w1 Y ∧ Y.ownsRow w1.heap.size 5 1 (.slice p2 (8 + x.length) c2) (8 + x.length) (bytesV (be v.last 8 ++ x)) ∧ w1.heap.size ≤ g6 ∧ Y.heap[g6]? = some (.cells zD 65 (0, 0)) ∧ w1.heap.size ≤ g7 ∧ Y.heap[g7]? = some (.cells zS 74 (0, 0))) tcC211 ?_ ?_
  ·rintro a' Y ⟨p1, c1, p2, c2, g6, g7, ha, hY, ho2, hl6, hg6, hl7, hg7⟩
   rw [ha]
   clear ha a'
   try simp only [Act.put, zA, zB, zC]
   unfold tcC211
   have HO2 := Lib.hid ho2
   have HG6 := Lib.hid hg6
   have HL6 := Lib.hid hl6
   have HG7 := Lib.hid hg7
   have HL7 := Lib.hid hl7
   clear ho2 hl6 hg6 hl7 hg7
   have hca := HPUT.out p2 c2 Y hY (by have := Cut.own_bs HO2.out; rw [HRL.out]; exact this)
   rw [HRL.out] at hca
   have HCA := Lib.hid hca
   clear hca
   refine tree3_one rfl (by rfl) (fun K hK => ?_)
   go_simp
   refine HCA.out.mono ?_
   rintro e z ⟨T', ps', cs', rfl, hrd, hrb, hbz⟩
   have hz9 := hY.trans (hbz.mono hY.size)
   have HRD := Lib.hid hrd
   have HRB := Lib.hid hrb
   refine Shut.out hK _ _ hz9 ?_
   clear hK K HCA hrd hrb HO2
   try simp only [Act.put, zA, zB, zC]
   have HG6 := Lib.hid (Below.keepOld hbz HG6.out)
   have HG7 := Lib.hid (Below.keepOld hbz HG7.out)
   have hz := hz9
   iterate 4 (apply tree3_take; (· rfl); (· rfl); (· (intro w' hb'; go_simp; try with_reducible rfl)); try simp only [Act.put, zA, zB, zC])
   refine K311 _ _ ?_
   try simp only [Act.put, zA, zB, zC]
   exact ⟨p1, c1, p2, c2, T', ps', cs', g6, g7, rfl, hz, HRD.out, HRB.out, HL6.out, HG6.out, HL7.out, HG7.out⟩
  intro K211
  refine tree3_key (fun a0 a' Y => ∃ (p1 : Option Addr) (c1 : Nat) (p2 : Option Addr) (c2 : Nat) (T' : List RF) (ps' : Option Addr) (cs' : Nat) (g7 : Nat), a' = ((((((((a0.put (some 20) (.slice p1 8 c1)).put (some 22) (.slice p2 (8 + x.length) c2)).put (some 23) (.tuple #[.agg (rdA T' D9), .agg (rsA 1 2 S9 ps' cs'), .int .i64 E9])).put (some 13) (.tuple #[.agg (rdA T' D9), .agg (rsA 1 2 S9 ps' cs'), .int .i64 E9])).put (some 24) (.agg (rdA T' D9))).put (some 25) (.agg (rsA 1 2 S9 ps' cs'))).put (some 26) (.int .i64 E9)).put (some 7) (.pointer (some ⟨g7, 0, none⟩))) ∧ Below w1.heap.size w1 Y ∧ RDB Y T' D9 ∧ RBs Y ps' S9.body.length cs' S9.body ∧ w1.heap.size ≤ g7 ∧ Y.heap[g7]? = some (.cells zS 74 (0, 0))) tcC301 ?_ ?_
  ·rintro a' Y ⟨p1, c1, p2, c2, T', ps', cs', g7, ha, hY, hrd, hrb, hl7, hg7⟩
   rw [ha]
   clear ha a'
   try simp only [Act.put, zA, zB, zC]
   unfold tcC301
   have HRD := Lib.hid hrd
   have HRB := Lib.hid hrb
   have HG7 := Lib.hid hg7
   have HL7 := Lib.hid hl7
   clear hrd hrb hl7 hg7
   refine tree3_one rfl (by rfl) (fun K hK => ?_)
   go_simp
   have hz9 := hY.alloc hY.size (.cells zD 65)
   have hgz := heap_alloc_last Y (.cells zD 65)
   have hbz := Below.allocs Y (.cells zD 65)
   have hlz : w1.heap.size ≤ Y.heap.size := hY.size
   refine Shut.out hK _ _ hz9 ?_
   clear hK K
   try simp only [Act.put, zA, zB, zC]
   generalize Y.alloc (.cells zD 65) = z at *
   have HRD := Lib.hid (HRD.out.below hbz)
   have HRB := Lib.hid (HRB.out.below hbz)
   have HG7 := Lib.hid (Below.keepOld hbz HG7.out)
   have HG6 := Lib.hid hgz
   have HL6 := Lib.hid hlz
   have hz := hz9
   obtain ⟨g6, HEg⟩ : ∃ n, Y.heap.size = n := ⟨_, rfl⟩
   rw [HEg] at HG6 HL6
   simp only [HEg]
   clear HEg
   refine K311 _ _ ?_
   try simp only [Act.put, zA, zB, zC]
   exact ⟨p1, c1, p2, c2, T', ps', cs', g6, g7, rfl, hz, HRD.out, HRB.out, HL6.out, HG6.out, HL7.out, HG7.out⟩
  intro K301
  refine tree3_key (fun a0 a' Y => ∃ (p1 : Option Addr) (c1 : Nat) (p2 : Option Addr) (c2 : Nat) (T' : List RF) (ps' : Option Addr) (cs' : Nat) (g6 : Nat), a' = ((((((((a0.put (some 20) (.slice p1 8 c1)).put (some 22) (.slice p2 (8 + x.length) c2)).put (some 23) (.tuple #[.agg (rdA T' D9), .agg (rsA 1 2 S9 ps' cs'), .int .i64 E9])).put (some 13) (.tuple #[.agg (rdA T' D9), .agg (rsA 1 2 S9 ps' cs'), .int .i64 E9])).put (some 24) (.agg (rdA T' D9))).put (some 25) (.agg (rsA 1 2 S9 ps' cs'))).put (some 26) (.int .i64 E9)).put (some 6) (.pointer (some ⟨g6, 0, none⟩))) ∧ Below w1.heap.size w1 Y ∧ RDB Y T' D9 ∧ RBs Y ps' S9.body.length cs' S9.body ∧ w1.heap.size ≤ g6 ∧ Y.heap[g6]? = some (.cells zD 65 (0, 0))) tcC310 ?_ ?_
  ·rintro a' Y ⟨p1, c1, p2, c2, T', ps', cs', g6, ha, hY, hrd, hrb, hl6, hg6⟩
   rw [ha]
   clear ha a'
   try simp only [Act.put, zA, zB, zC]
   unfold tcC310
   have HRD := Lib.hid hrd
   have HRB := Lib.hid hrb
   have HG6 := Lib.hid hg6
   have HL6 := Lib.hid hl6
   clear hrd hrb hl6 hg6
   refine tree3_one rfl (by rfl) (fun K hK => ?_)
   go_simp
   have hz9 := hY.alloc hY.size (.cells zS 74)
   have hgz := heap_alloc_last Y (.cells zS 74)
   have hbz := Below.allocs Y (.cells zS 74)
   have hlz : w1.heap.size ≤ Y.heap.size := hY.size
   refine Shut.out hK _ _ hz9 ?_
   clear hK K
   try simp only [Act.put, zA, zB, zC]
   generalize Y.alloc (.cells zS 74) = z at *
   have HRD := Lib.hid (HRD.out.below hbz)
   have HRB := Lib.hid (HRB.out.below hbz)
   have HG6 := Lib.hid (Below.keepOld hbz HG6.out)
   have HG7 := Lib.hid hgz
   have HL7 := Lib.hid hlz
   have hz := hz9
   obtain ⟨g7, HEg⟩ : ∃ n, Y.heap.size = n := ⟨_, rfl⟩
   rw [HEg] at HG7 HL7
   simp only [HEg]
   clear HEg
   refine K311 _ _ ?_
   try simp only [Act.put, zA, zB, zC]
   exact ⟨p1, c1, p2, c2, T', ps', cs', g6, g7, rfl, hz, HRD.out, HRB.out, HL6.out, HG6.out, HL7.out, HG7.out⟩
  intro K310
  refine tree3_key (fun a0 a' Y => ∃ (p1 : Option Addr) (c1 : Nat) (g6 : Nat) (g7 : Nat), a' = (((a0.put (some 20) (.slice p1 8 c1)).put (some 6) (.pointer (some ⟨g6, 0, none⟩))).put (some 7) (.pointer (some ⟨g7, 0, none⟩))) ∧ Below w1.heap.size w1 Y ∧ Y.ownsRow w1.heap.size 5 1 (.slice p1 8 c1) 8 (bytesV (be v.last 8)) ∧ w1.heap.size ≤ g6 ∧ Y.heap[g6]? = some (.cells zD 65 (0, 0)) ∧ w1.heap.size ≤ g7 ∧ Y.heap[g7]? = some (.cells zS 74 (0, 0))) tcC111 ?_ ?_
  ·rintro a' Y ⟨p1, c1, g6, g7, ha, hY, ho1, hl6, hg6, hl7, hg7⟩
   rw [ha]
   clear ha a'
   try simp only [Act.put, zA, zB, zC]
   unfold tcC111
   have HO1 := Lib.hid ho1
   have HG6 := Lib.hid hg6
   have HL6 := Lib.hid hl6
   have HG7 := Lib.hid hg7
   have HL7 := Lib.hid hl7
   clear ho1 hl6 hg6 hl7 hg7
   refine tree3_one rfl (by rfl) (fun K hK => oper_of_list rfl ?_)
   refine wpList_append_nx rfl _ _ 22 rfl (base := w1.heap.size) Tryz.underlying22 info8 rfl (by omega) rfl HO1.out rfl (HBS.out.below hY) (bytesV_one _) ⟨by omega, by omega⟩ hY.size ?_
   intro p2 c2 z ho2 hg2 _ _
   have hz9 : Below w1.heap.size w1 z := hY.grown hg2 hY.size (fun k hk => (HO1.out.lt k hk).1)
   have hgw := Turns.grown (S := fun k => (Value.slice p1 8 c1).ownBlock = some k) hg2 (fun k h => h)
   have ho2 : z.ownsRow w1.heap.size 5 1 (.slice p2 (8 + x.length) c2) (8 + x.length) (bytesV (be v.last 8 ++ x)) := by rw [bytesV_append]; exact ho2
   have HO2 := Lib.hid ho2
   refine only_end (Shut.out hK _ _ hz9 ?_)
   clear hK K ho2 hg2
   try simp only [Act.put, zA, zB, zC]
   have HG6 := Lib.hid (hgw.keep HG6.out (own_neR HO1.out HG6.out (by decide)))
   have HG7 := Lib.hid (hgw.keep HG7.out (own_neR HO1.out HG7.out (by decide)))
   have hz := hz9
   refine K211 _ _ ?_
   try simp only [Act.put, zA, zB, zC]
   exact ⟨p1, c1, p2, c2, g6, g7, rfl, hz, HO2.out, HL6.out, HG6.out, HL7.out, HG7.out⟩
  intro K111
  refine tree3_key (fun a0 a' Y => ∃ (p1 : Option Addr) (c1 : Nat) (p2 : Option Addr) (c2 : Nat) (g7 : Nat), a' = (((a0.put (some 20) (.slice p1 8 c1)).put (some 22) (.slice p2 (8 + x.length) c2)).put (some 7) (.pointer (some ⟨g7, 0, none⟩))) ∧ Below w1.heap.size w1 Y ∧ Y.ownsRow w1.heap.size 5 1 (.slice p2 (8 + x.length) c2) (8 + x.length) (bytesV (be v.last 8 ++ x)) ∧ w1.heap.size ≤ g7 ∧ Y.heap[g7]? = some (.cells zS 74 (0, 0))) tcC201 ?_ ?_
  ·rintro a' Y ⟨p1, c1, p2, c2, g7, ha, hY, ho2, hl7, hg7⟩
   rw [ha]
   clear ha a'
   try simp only [Act.put, zA, zB, zC]
   unfold tcC201
   have HO2 := Lib.hid ho2
   have HG7 := Lib.hid hg7
   have HL7 := Lib.hid hl7
   clear ho2 hl7 hg7
   refine tree3_two ?_ ?_
   ·skip
    have hca := HPUT.out p2 c2 Y hY (by have := Cut.own_bs HO2.out; rw [HRL.out]; exact this)
    rw [HRL.out] at hca
    have HCA := Lib.hid hca
    clear hca
    refine tree3_one rfl (by rfl) (fun K hK => ?_)
    go_simp
    refine HCA.out.mono ?_
    rintro e z ⟨T', ps', cs', rfl, hrd, hrb, hbz⟩
    have hz9 := hY.trans (hbz.mono hY.size)
    have HRD := Lib.hid hrd
    have HRB := Lib.hid hrb
    refine Shut.out hK _ _ hz9 ?_
    clear hK K HCA hrd hrb HO2
    try simp only [Act.put, zA, zB, zC]
    have HG7 := Lib.hid (Below.keepOld hbz HG7.out)
    have hz := hz9
    iterate 4 (apply tree3_take; (· rfl); (· rfl); (· (intro w' hb'; go_simp; try with_reducible rfl)); try simp only [Act.put, zA, zB, zC])
    refine K301 _ _ ?_
    try simp only [Act.put, zA, zB, zC]
    exact ⟨p1, c1, p2, c2, T', ps', cs', g7, rfl, hz, HRD.out, HRB.out, HL7.out, HG7.out⟩
   ·skip
    refine tree3_one rfl (by rfl) (fun K hK => ?_)
    go_simp
    have hz9 := hY.alloc hY.size (.cells zD 65)
    have hgz := heap_alloc_last Y (.cells zD 65)
    have hbz := Below.allocs Y (.cells zD 65)
    have hlz : w1.heap.size ≤ Y.heap.size := hY.size
    refine Shut.out hK _ _ hz9 ?_
    clear hK K
    try simp only [Act.put, zA, zB, zC]
    generalize Y.alloc (.cells zD 65) = z at *
    have HO2 := Lib.hid (own_touch HO2.out (Turns.of_below (S := fun _ => False) hbz) (fun _ _ h => h))
    have HG7 := Lib.hid (Below.keepOld hbz HG7.out)
    have HG6 := Lib.hid hgz
    have HL6 := Lib.hid hlz
    have hz := hz9
    obtain ⟨g6, HEg⟩ : ∃ n, Y.heap.size = n := ⟨_, rfl⟩
    rw [HEg] at HG6 HL6
    simp only [HEg]
    clear HEg
    refine K211 _ _ ?_
    try simp only [Act.put, zA, zB, zC]
    exact ⟨p1, c1, p2, c2, g6, g7, rfl, hz, HO2.out, HL6.out, HG6.out, HL7.out, HG7.out⟩
  intro K201
  refine tree3_key (fun a0 a' Y => ∃ (p1 : Option Addr) (c1 : Nat) (p2 : Option Addr) (c2 : Nat) (g6 : Nat), a' = (((a0.put (some 20) (.slice p1 8 c1)).put (some 22) (.slice p2 (8 + x.length) c2)).put (some 6) (.pointer (some ⟨g6, 0, none⟩))) ∧ Below w1.heap.size w1 Y ∧ Y.ownsRow w1.heap.size 5 1 (.slice p2 (8 + x.length) c2) (8 + x.length) (bytesV (be v.last 8 ++ x)) ∧ w1.heap.size ≤ g6 ∧ Y.heap[g6]? = some (.cells zD 65 (0, 0))) tcC210 ?_ ?_
  ·rintro a' Y ⟨p1, c1, p2, c2, g6, ha, hY, ho2, hl6, hg6⟩
   rw [ha]
   clear ha a'
   try simp only [Act.put, zA, zB, zC]
   unfold tcC210
   have HO2 := Lib.hid ho2
   have HG6 := Lib.hid hg6
   have HL6 := Lib.hid hl6
   clear ho2 hl6 hg6
   refine tree3_two ?_ ?_
   ·skip
    have hca := HPUT.out p2 c2 Y hY (by have := Cut.own_bs HO2.out; rw [HRL.out]; exact this)
    rw [HRL.out] at hca
    have HCA := Lib.hid hca
    clear hca
    refine tree3_one rfl (by rfl) (fun K hK => ?_)
    go_simp
    refine HCA.out.mono ?_
    rintro e z ⟨T', ps', cs', rfl, hrd, hrb, hbz⟩
    have hz9 := hY.trans (hbz.mono hY.size)
    have HRD := Lib.hid hrd
    have HRB := Lib.hid hrb
    refine Shut.out hK _ _ hz9 ?_
    clear hK K HCA hrd hrb HO2
    try simp only [Act.put, zA, zB, zC]
    have HG6 := Lib.hid (Below.keepOld hbz HG6.out)
    have hz := hz9
    iterate 4 (apply tree3_take; (· rfl); (· rfl); (· (intro w' hb'; go_simp; try with_reducible rfl)); try simp only [Act.put, zA, zB, zC])
    refine K310 _ _ ?_
    try simp only [Act.put, zA, zB, zC]
    exact ⟨p1, c1, p2, c2, T', ps', cs', g6, rfl, hz, HRD.out, HRB.out, HL6.out, HG6.out⟩
   ·skip
    refine tree3_one rfl (by rfl) (fun K hK => ?_)
    go_simp
    have hz9 := hY.alloc hY.size (.cells zS 74)
    have hgz := heap_alloc_last Y (.cells zS 74)
    have hbz := Below.allocs Y (.cells zS 74)
    have hlz : w1.heap.size ≤ Y.heap.size := hY.size
    refine Shut.out hK _ _ hz9 ?_
    clear hK K
    try simp only [Act.put, zA, zB, zC]
    generalize Y.alloc (.cells zS 74) = z at *
    have HO2 := Lib.hid (own_touch HO2.out (Turns.of_below (S := fun _ => False) hbz) (fun _ _ h => h))
    have HG6 := Lib.hid (Below.keepOld hbz HG6.out)
    have HG7 := Lib.hid hgz
    have HL7 := Lib.hid hlz
    have hz := hz9
    obtain ⟨g7, HEg⟩ : ∃ n, Y.heap.size = n := ⟨_, rfl⟩
    rw [HEg] at HG7 HL7
    simp only [HEg]
    clear HEg
    refine K211 _ _ ?_
    try simp only [Act.put, zA, zB, zC]
    exact ⟨p1, c1, p2, c2, g6, g7, rfl, hz, HO2.out, HL6.out, HG6.out, HL7.out, HG7.out⟩
  intro K210
  refine tree3_key (fun a0 a' Y => ∃ (p1 : Option Addr) (c1 : Nat) (p2 : Option Addr) (c2 : Nat) (T' : List RF) (ps' : Option Addr) (cs' : Nat), a' = (((((((a0.put (some 20) (.slice p1 8 c1)).put (some 22) (.slice p2 (8 + x.length) c2)).put (some 23) (.tuple #[.agg (rdA T' D9), .agg (rsA 1 2 S9 ps' cs'), .int .i64 E9])).put (some 13) (.tuple #[.agg (rdA T' D9), .agg (rsA 1 2 S9 ps' cs'), .int .i64 E9])).put (some 24) (.agg (rdA T' D9))).put (some 25) (.agg (rsA 1 2 S9 ps' cs'))).put (some 26) (.int .i64 E9)) ∧ Below w1.heap.size w1 Y ∧ RDB Y T' D9 ∧ RBs Y ps' S9.body.length cs' S9.body) tcC300 ?_ ?_
  ·rintro a' Y ⟨p1, c1, p2, c2, T', ps', cs', ha, hY, hrd, hrb⟩
   rw [ha]
   clear ha a'
   try simp only [Act.put, zA, zB, zC]
   unfold tcC300
   have HRD := Lib.hid hrd
   have HRB := Lib.hid hrb
   clear hrd hrb
   refine tree3_two ?_ ?_
   ·skip
    refine tree3_one rfl (by rfl) (fun K hK => ?_)
    go_simp
    have hz9 := hY.alloc hY.size (.cells zD 65)
    have hgz := heap_alloc_last Y (.cells zD 65)
    have hbz := Below.allocs Y (.cells zD 65)
    have hlz : w1.heap.size ≤ Y.heap.size := hY.size
    refine Shut.out hK _ _ hz9 ?_
    clear hK K
    try simp only [Act.put, zA, zB, zC]
    generalize Y.alloc (.cells zD 65) = z at *
    have HRD := Lib.hid (HRD.out.below hbz)
    have HRB := Lib.hid (HRB.out.below hbz)
    have HG6 := Lib.hid hgz
    have HL6 := Lib.hid hlz
    have hz := hz9
    obtain ⟨g6, HEg⟩ : ∃ n, Y.heap.size = n := ⟨_, rfl⟩
    rw [HEg] at HG6 HL6
    simp only [HEg]
    clear HEg
    refine K310 _ _ ?_
    try simp only [Act.put, zA, zB, zC]
    exact ⟨p1, c1, p2, c2, T', ps', cs', g6, rfl, hz, HRD.out, HRB.out, HL6.out, HG6.out⟩
   ·skip
    refine tree3_one rfl (by rfl) (fun K hK => ?_)
    go_simp
    have hz9 := hY.alloc hY.size (.cells zS 74)
    have hgz := heap_alloc_last Y (.cells zS 74)
    have hbz := Below.allocs Y (.cells zS 74)
    have hlz : w1.heap.size ≤ Y.heap.size := hY.size
    refine Shut.out hK _ _ hz9 ?_
    clear hK K
    try simp only [Act.put, zA, zB, zC]
    generalize Y.alloc (.cells zS 74) = z at *
    have HRD := Lib.hid (HRD.out.below hbz)
    have HRB := Lib.hid (HRB.out.below hbz)
    have HG7 := Lib.hid hgz
    have HL7 := Lib.hid hlz
    have hz := hz9
    obtain ⟨g7, HEg⟩ : ∃ n, Y.heap.size = n := ⟨_, rfl⟩
    rw [HEg] at HG7 HL7
    simp only [HEg]
    clear HEg
    refine K301 _ _ ?_
    try simp only [Act.put, zA, zB, zC]
    exact ⟨p1, c1, p2, c2, T', ps', cs', g7, rfl, hz, HRD.out, HRB.out, HL7.out, HG7.out⟩
  intro K300
  refine tree3_key (fun a0 a' Y => ∃ (g6 : Nat) (g7 : Nat), a' = ((a0.put (some 6) (.pointer (some ⟨g6, 0, none⟩))).put (some 7) (.pointer (some ⟨g7, 0, none⟩))) ∧ Below w1.heap.size w1 Y ∧ w1.heap.size ≤ g6 ∧ Y.heap[g6]? = some (.cells zD 65 (0, 0)) ∧ w1.heap.size ≤ g7 ∧ Y.heap[g7]? = some (.cells zS 74 (0, 0))) tcC011 ?_ ?_
  ·rintro a' Y ⟨g6, g7, ha, hY, hl6, hg6, hl7, hg7⟩
   rw [ha]
   clear ha a'
   try simp only [Act.put, zA, zB, zC]
   unfold tcC011
   have HG6 := Lib.hid hg6
   have HL6 := Lib.hid hl6
   have HG7 := Lib.hid hg7
   have HL7 := Lib.hid hl7
   clear hl6 hg6 hl7 hg7
   refine tree3_one rfl (by rfl) (fun K hK => ?_)
   go_simp
   refine (HNUM.out Y).mono ?_
   rintro e z ⟨p1, c1, rfl, ho1, hbz⟩
   have hz9 := hY.trans (hbz.mono hY.size)
   have HO1 := Lib.hid (own_base (base' := w1.heap.size) ho1 (fun k hk => Nat.le_trans hY.size (ho1.lt k hk).1))
   refine Shut.out hK _ _ hz9 ?_
   clear hK K ho1
   try simp only [Act.put, zA, zB, zC]
   have HG6 := Lib.hid (Below.keepOld hbz HG6.out)
   have HG7 := Lib.hid (Below.keepOld hbz HG7.out)
   have hz := hz9
   refine K111 _ _ ?_
   try simp only [Act.put, zA, zB, zC]
   exact ⟨p1, c1, g6, g7, rfl, hz, HO1.out, HL6.out, HG6.out, HL7.out, HG7.out⟩
  intro K011
  refine tree3_key (fun a0 a' Y => ∃ (p1 : Option Addr) (c1 : Nat) (g7 : Nat), a' = ((a0.put (some 20) (.slice p1 8 c1)).put (some 7) (.pointer (some ⟨g7, 0, none⟩))) ∧ Below w1.heap.size w1 Y ∧ Y.ownsRow w1.heap.size 5 1 (.slice p1 8 c1) 8 (bytesV (be v.last 8)) ∧ w1.heap.size ≤ g7 ∧ Y.heap[g7]? = some (.cells zS 74 (0, 0))) tcC101 ?_ ?_
  ·rintro a' Y ⟨p1, c1, g7, ha, hY, ho1, hl7, hg7⟩
   rw [ha]
   clear ha a'
   try simp only [Act.put, zA, zB, zC]
   unfold tcC101
   have HO1 := Lib.hid ho1
   have HG7 := Lib.hid hg7
   have HL7 := Lib.hid hl7
   clear ho1 hl7 hg7
   refine tree3_two ?_ ?_
   ·skip
    refine tree3_one rfl (by rfl) (fun K hK => oper_of_list rfl ?_)
    refine wpList_append_nx rfl _ _ 22 rfl (base := w1.heap.size) Tryz.underlying22 info8 rfl (by omega) rfl HO1.out rfl (HBS.out.below hY) (bytesV_one _) ⟨by omega, by omega⟩ hY.size ?_
    intro p2 c2 z ho2 hg2 _ _
    have hz9 : Below w1.heap.size w1 z := hY.grown hg2 hY.size (fun k hk => (HO1.out.lt k hk).1)
    have hgw := Turns.grown (S := fun k => (Value.slice p1 8 c1).ownBlock = some k) hg2 (fun k h => h)
    have ho2 : z.ownsRow w1.heap.size 5 1 (.slice p2 (8 + x.length) c2) (8 + x.length) (bytesV (be v.last 8 ++ x)) := by rw [bytesV_append]; exact ho2
    have HO2 := Lib.hid ho2
    refine only_end (Shut.out hK _ _ hz9 ?_)
    clear hK K ho2 hg2
    try simp only [Act.put, zA, zB, zC]
    have HG7 := Lib.hid (hgw.keep HG7.out (own_neR HO1.out HG7.out (by decide)))
    have hz := hz9
    refine K201 _ _ ?_
    try simp only [Act.put, zA, zB, zC]
    exact ⟨p1, c1, p2, c2, g7, rfl, hz, HO2.out, HL7.out, HG7.out⟩
   ·skip
    refine tree3_one rfl (by rfl) (fun K hK => ?_)
    go_simp
    have hz9 := hY.alloc hY.size (.cells zD 65)
    have hgz := heap_alloc_last Y (.cells zD 65)
    have hbz := Below.allocs Y (.cells zD 65)
    have hlz : w1.heap.size ≤ Y.heap.size := hY.size
    refine Shut.out hK _ _ hz9 ?_
    clear hK K
    try simp only [Act.put, zA, zB, zC]
    generalize Y.alloc (.cells zD 65) = z at *
    have HO1 := Lib.hid (own_touch HO1.out (Turns.of_below (S := fun _ => False) hbz) (fun _ _ h => h))
    have HG7 := Lib.hid (Below.keepOld hbz HG7.out)
    have HG6 := Lib.hid hgz
    have HL6 := Lib.hid hlz
    have hz := hz9
    obtain ⟨g6, HEg⟩ : ∃ n, Y.heap.size = n := ⟨_, rfl⟩
    rw [HEg] at HG6 HL6
    simp only [HEg]
    clear HEg
    refine K111 _ _ ?_
    try simp only [Act.put, zA, zB, zC]
    exact ⟨p1, c1, g6, g7, rfl, hz, HO1.out, HL6.out, HG6.out, HL7.out, HG7.out⟩
  intro K101
  refine tree3_key (fun a0 a' Y => ∃ (p1 : Option Addr) (c1 : Nat) (g6 : Nat), a' = ((a0.put (some 20) (.slice p1 8 c1)).put (some 6) (.pointer (some ⟨g6, 0, none⟩))) ∧ Below w1.heap.size w1 Y ∧ Y.ownsRow w1.heap.size 5 1 (.slice p1 8 c1) 8 (bytesV (be v.last 8)) ∧ w1.heap.size ≤ g6 ∧ Y.heap[g6]? = some (.cells zD 65 (0, 0))) tcC110 ?_ ?_
  ·rintro a' Y ⟨p1, c1, g6, ha, hY, ho1, hl6, hg6⟩
   rw [ha]
   clear ha a'
   try simp only [Act.put, zA, zB, zC]
   unfold tcC110
   have HO1 := Lib.hid ho1
   have HG6 := Lib.hid hg6
   have HL6 := Lib.hid hl6
   clear ho1 hl6 hg6
   refine tree3_two ?_ ?_
   ·skip
    refine tree3_one rfl (by rfl) (fun K hK => oper_of_list rfl ?_)
    refine wpList_append_nx rfl _ _ 22 rfl (base := w1.heap.size) Tryz.underlying22 info8 rfl (by omega) rfl HO1.out rfl (HBS.out.below hY) (bytesV_one _) ⟨by omega, by omega⟩ hY.size ?_
    intro p2 c2 z ho2 hg2 _ _
    have hz9 : Below w1.heap.size w1 z := hY.grown hg2 hY.size (fun k hk => (HO1.out.lt k hk).1)
    have hgw := Turns.grown (S := fun k => (Value.slice p1 8 c1).ownBlock = some k) hg2 (fun k h => h)
    have ho2 : z.ownsRow w1.heap.size 5 1 (.slice p2 (8 + x.length) c2) (8 + x.length) (bytesV (be v.last 8 ++ x)) := by rw [bytesV_append]; exact ho2
    have HO2 := Lib.hid ho2
    refine only_end (Shut.out hK _ _ hz9 ?_)
    clear hK K ho2 hg2
    try simp only [Act.put, zA, zB, zC]
    have HG6 := Lib.hid (hgw.keep HG6.out (own_neR HO1.out HG6.out (by decide)))
    have hz := hz9
    refine K210 _ _ ?_
    try simp only [Act.put, zA, zB, zC]
    exact ⟨p1, c1, p2, c2, g6, rfl, hz, HO2.out, HL6.out, HG6.out⟩
   ·skip
    refine tree3_one rfl (by rfl) (fun K hK => ?_)
    go_simp
    have hz9 := hY.alloc hY.size (.cells zS 74)
    have hgz := heap_alloc_last Y (.cells zS 74)
    have hbz := Below.allocs Y (.cells zS 74)
    have hlz : w1.heap.size ≤ Y.heap.size := hY.size
    refine Shut.out hK _ _ hz9 ?_
    clear hK K
    try simp only [Act.put, zA, zB, zC]
    generalize Y.alloc (.cells zS 74) = z at *
    have HO1 := Lib.hid (own_touch HO1.out (Turns.of_below (S := fun _ => False) hbz) (fun _ _ h => h))
    have HG6 := Lib.hid (Below.keepOld hbz HG6.out)
    have HG7 := Lib.hid hgz
    have HL7 := Lib.hid hlz
    have hz := hz9
    obtain ⟨g7, HEg⟩ : ∃ n, Y.heap.size = n := ⟨_, rfl⟩
    rw [HEg] at HG7 HL7
    simp only [HEg]
    clear HEg
    refine K111 _ _ ?_
    try simp only [Act.put, zA, zB, zC]
    exact ⟨p1, c1, g6, g7, rfl, hz, HO1.out, HL6.out, HG6.out, HL7.out, HG7.out⟩
  intro K110
  refine tree3_key (fun a0 a' Y => ∃ (p1 : Option Addr) (c1 : Nat) (p2 : Option Addr) (c2 : Nat), a' = ((a0.put (some 20) (.slice p1 8 c1)).put (some 22) (.slice p2 (8 + x.length) c2)) ∧ Below w1.heap.size w1 Y ∧ Y.ownsRow w1.heap.size 5 1 (.slice p2 (8 + x.length) c2) (8 + x.length) (bytesV (be v.last 8 ++ x))) tcC200 ?_ ?_
  ·rintro a' Y ⟨p1, c1, p2, c2, ha, hY, ho2⟩
   rw [ha]
   clear ha a'
   try simp only [Act.put, zA, zB, zC]
   unfold tcC200
   have HO2 := Lib.hid ho2
   clear ho2
   refine tree3_three ?_ ?_ ?_
   ·skip
    have hca := HPUT.out p2 c2 Y hY (by have := Cut.own_bs HO2.out; rw [HRL.out]; exact this)
    rw [HRL.out] at hca
    have HCA := Lib.hid hca
    clear hca
    refine tree3_one rfl (by rfl) (fun K hK => ?_)
    go_simp
    refine HCA.out.mono ?_
    rintro e z ⟨T', ps', cs', rfl, hrd, hrb, hbz⟩
    have hz9 := hY.trans (hbz.mono hY.size)
    have HRD := Lib.hid hrd
    have HRB := Lib.hid hrb
    refine Shut.out hK _ _ hz9 ?_
    clear hK K HCA hrd hrb HO2
    try simp only [Act.put, zA, zB, zC]
    have hz := hz9
    iterate 4 (apply tree3_take; (· rfl); (· rfl); (· (intro w' hb'; go_simp; try with_reducible rfl)); try simp only [Act.put, zA, zB, zC])
    refine K300 _ _ ?_
    try simp only [Act.put, zA, zB, zC]
    exact ⟨p1, c1, p2, c2, T', ps', cs', rfl, hz, HRD.out, HRB.out⟩
   ·skip
    refine tree3_one rfl (by rfl) (fun K hK => ?_)
    go_simp
    have hz9 := hY.alloc hY.size (.cells zD 65)
    have hgz := heap_alloc_last Y (.cells zD 65)
    have hbz := Below.allocs Y (.cells zD 65)
    have hlz : w1.heap.size ≤ Y.heap.size := hY.size
    refine Shut.out hK _ _ hz9 ?_
    clear hK K
    try simp only [Act.put, zA, zB, zC]
    generalize Y.alloc (.cells zD 65) = z at *
    have HO2 := Lib.hid (own_touch HO2.out (Turns.of_below (S := fun _ => False) hbz) (fun _ _ h => h))
    have HG6 := Lib.hid hgz
    have HL6 := Lib.hid hlz
    have hz := hz9
    obtain ⟨g6, HEg⟩ : ∃ n, Y.heap.size = n := ⟨_, rfl⟩
    rw [HEg] at HG6 HL6
    simp only [HEg]
    clear HEg
    refine K210 _ _ ?_
    try simp only [Act.put, zA, zB, zC]
    exact ⟨p1, c1, p2, c2, g6, rfl, hz, HO2.out, HL6.out, HG6.out⟩
   ·skip
    refine tree3_one rfl (by rfl) (fun K hK => ?_)
    go_simp
    have hz9 := hY.alloc hY.size (.cells zS 74)
    have hgz := heap_alloc_last Y (.cells zS 74)
    have hbz := Below.allocs Y (.cells zS 74)
    have hlz : w1.heap.size ≤ Y.heap.size := hY.size
    refine Shut.out hK _ _ hz9 ?_
    clear hK K
    try simp only [Act.put, zA, zB, zC]
    generalize Y.alloc (.cells zS 74) = z at *
    have HO2 := Lib.hid (own_touch HO2.out (Turns.of_below (S := fun _ => False) hbz) (fun _ _ h => h))
    have HG7 := Lib.hid hgz
    have HL7 := Lib.hid hlz
    have hz := hz9
    obtain ⟨g7, HEg⟩ : ∃ n, Y.heap.size = n := ⟨_, rfl⟩
    rw [HEg] at HG7 HL7
    simp only [HEg]
    clear HEg
    refine K201 _ _ ?_
    try simp only [Act.put, zA, zB, zC]
    exact ⟨p1, c1, p2, c2, g7, rfl, hz, HO2.out, HL7.out, HG7.out⟩
  intro K200
  refine tree3_key (fun a0 a' Y => ∃ (g7 : Nat), a' = (a0.put (some 7) (.pointer (some ⟨g7, 0, none⟩))) ∧ Below w1.heap.size w1 Y ∧ w1.heap.size ≤ g7 ∧ Y.heap[g7]? = some (.cells zS 74 (0, 0))) tcC001 ?_ ?_
  ·rintro a' Y ⟨g7, ha, hY, hl7, hg7⟩
   rw [ha]
   clear ha a'
   try simp only [Act.put, zA, zB, zC]
   unfold tcC001
   have HG7 := Lib.hid hg7
   have HL7 := Lib.hid hl7
   clear hl7 hg7
   refine tree3_two ?_ ?_
   ·skip
    refine tree3_one rfl (by rfl) (fun K hK => ?_)
    go_simp
    refine (HNUM.out Y).mono ?_
    rintro e z ⟨p1, c1, rfl, ho1, hbz⟩
    have hz9 := hY.trans (hbz.mono hY.size)
    have HO1 := Lib.hid (own_base (base' := w1.heap.size) ho1 (fun k hk => Nat.le_trans hY.size (ho1.lt k hk).1))
    refine Shut.out hK _ _ hz9 ?_
    clear hK K ho1
    try simp only [Act.put, zA, zB, zC]
    have HG7 := Lib.hid (Below.keepOld hbz HG7.out)
    have hz := hz9
    refine K101 _ _ ?_
    try simp only [Act.put, zA, zB, zC]
    exact ⟨p1, c1, g7, rfl, hz, HO1.out, HL7.out, HG7.out⟩
   ·skip
    refine tree3_one rfl (by rfl) (fun K hK => ?_)
    go_simp
    have hz9 := hY.alloc hY.size (.cells zD 65)
    have hgz := heap_alloc_last Y (.cells zD 65)
    have hbz := Below.allocs Y (.cells zD 65)
    have hlz : w1.heap.size ≤ Y.heap.size := hY.size
    refine Shut.out hK _ _ hz9 ?_
    clear hK K
    try simp only [Act.put, zA, zB, zC]
    generalize Y.alloc (.cells zD 65) = z at *
    have HG7 := Lib.hid (Below.keepOld hbz HG7.out)
    have HG6 := Lib.hid hgz
    have HL6 := Lib.hid hlz
    have hz := hz9
    obtain ⟨g6, HEg⟩ : ∃ n, Y.heap.size = n := ⟨_, rfl⟩
    rw [HEg] at HG6 HL6
    simp only [HEg]
    clear HEg
    refine K011 _ _ ?_
    try simp only [Act.put, zA, zB, zC]
    exact ⟨g6, g7, rfl, hz, HL6.out, HG6.out, HL7.out, HG7.out⟩
  intro K001
  refine tree3_key (fun a0 a' Y => ∃ (g6 : Nat), a' = (a0.put (some 6) (.pointer (some ⟨g6, 0, none⟩))) ∧ Below w1.heap.size w1 Y ∧ w1.heap.size ≤ g6 ∧ Y.heap[g6]? = some (.cells zD 65 (0, 0))) tcC010 ?_ ?_
  ·rintro a' Y ⟨g6, ha, hY, hl6, hg6⟩
   rw [ha]
   clear ha a'
   try simp only [Act.put, zA, zB, zC]
   unfold tcC010
   have HG6 := Lib.hid hg6
   have HL6 := Lib.hid hl6
   clear hl6 hg6
   refine tree3_two ?_ ?_
   ·skip
    refine tree3_one rfl (by rfl) (fun K hK => ?_)
    go_simp
    refine (HNUM.out Y).mono ?_
    rintro e z ⟨p1, c1, rfl, ho1, hbz⟩
    have hz9 := hY.trans (hbz.mono hY.size)
    have HO1 := Lib.hid (own_base (base' := w1.heap.size) ho1 (fun k hk => Nat.le_trans hY.size (ho1.lt k hk).1))
    refine Shut.out hK _ _ hz9 ?_
    clear hK K ho1
    try simp only [Act.put, zA, zB, zC]
    have HG6 := Lib.hid (Below.keepOld hbz HG6.out)
    have hz := hz9
    refine K110 _ _ ?_
    try simp only [Act.put, zA, zB, zC]
    exact ⟨p1, c1, g6, rfl, hz, HO1.out, HL6.out, HG6.out⟩
   ·skip
    refine tree3_one rfl (by rfl) (fun K hK => ?_)
    go_simp
    have hz9 := hY.alloc hY.size (.cells zS 74)
    have hgz := heap_alloc_last Y (.cells zS 74)
    have hbz := Below.allocs Y (.cells zS 74)
    have hlz : w1.heap.size ≤ Y.heap.size := hY.size
    refine Shut.out hK _ _ hz9 ?_
    clear hK K
    try simp only [Act.put, zA, zB, zC]
    generalize Y.alloc (.cells zS 74) = z at *
    have HG6 := Lib.hid (Below.keepOld hbz HG6.out)
    have HG7 := Lib.hid hgz
    have HL7 := Lib.hid hlz
    have hz := hz9
    obtain ⟨g7, HEg⟩ : ∃ n, Y.heap.size = n := ⟨_, rfl⟩
    rw [HEg] at HG7 HL7
    simp only [HEg]
    clear HEg
    refine K011 _ _ ?_
    try simp only [Act.put, zA, zB, zC]
    exact ⟨g6, g7, rfl, hz, HL6.out, HG6.out, HL7.out, HG7.out⟩
  intro K010
  refine tree3_key (fun a0 a' Y => ∃ (p1 : Option Addr) (c1 : Nat), a' = (a0.put (some 20) (.slice p1 8 c1)) ∧ Below w1.heap.size w1 Y ∧ Y.ownsRow w1.heap.size 5 1 (.slice p1 8 c1) 8 (bytesV (be v.last 8))) tcC100 ?_ ?_
  ·rintro a' Y ⟨p1, c1, ha, hY, ho1⟩
   rw [ha]
   clear ha a'
   try simp only [Act.put, zA, zB, zC]
   unfold tcC100
   have HO1 := Lib.hid ho1
   clear ho1
   refine tree3_three ?_ ?_ ?_
   ·skip
    refine tree3_one rfl (by rfl) (fun K hK => oper_of_list rfl ?_)
    refine wpList_append_nx rfl _ _ 22 rfl (base := w1.heap.size) Tryz.underlying22 info8 rfl (by omega) rfl HO1.out rfl (HBS.out.below hY) (bytesV_one _) ⟨by omega, by omega⟩ hY.size ?_
    intro p2 c2 z ho2 hg2 _ _
    have hz9 : Below w1.heap.size w1 z := hY.grown hg2 hY.size (fun k hk => (HO1.out.lt k hk).1)
    have hgw := Turns.grown (S := fun k => (Value.slice p1 8 c1).ownBlock = some k) hg2 (fun k h => h)
    have ho2 : z.ownsRow w1.heap.size 5 1 (.slice p2 (8 + x.length) c2) (8 + x.length) (bytesV (be v.last 8 ++ x)) := by rw [bytesV_append]; exact ho2
    have HO2 := Lib.hid ho2
    refine only_end (Shut.out hK _ _ hz9 ?_)
    clear hK K ho2 hg2
    try simp only [Act.put, zA, zB, zC]
    have hz := hz9
    refine K200 _ _ ?_
    try simp only [Act.put, zA, zB, zC]
    exact ⟨p1, c1, p2, c2, rfl, hz, HO2.out⟩
   ·skip
    refine tree3_one rfl (by rfl) (fun K hK => ?_)
    go_simp
    have hz9 := hY.alloc hY.size (.cells zD 65)
    have hgz := heap_alloc_last Y (.cells zD 65)
    have hbz := Below.allocs Y (.cells zD 65)
    have hlz : w1.heap.size ≤ Y.heap.size := hY.size
    refine Shut.out hK _ _ hz9 ?_
    clear hK K
    try simp only [Act.put, zA, zB, zC]
    generalize Y.alloc (.cells zD 65) = z at *
    have HO1 := Lib.hid (own_touch HO1.out (Turns.of_below (S := fun _ => False) hbz) (fun _ _ h => h))
    have HG6 := Lib.hid hgz
    have HL6 := Lib.hid hlz
    have hz := hz9
    obtain ⟨g6, HEg⟩ : ∃ n, Y.heap.size = n := ⟨_, rfl⟩
    rw [HEg] at HG6 HL6
    simp only [HEg]
    clear HEg
    refine K110 _ _ ?_
    try simp only [Act.put, zA, zB, zC]
    exact ⟨p1, c1, g6, rfl, hz, HO1.out, HL6.out, HG6.out⟩
   ·skip
    refine tree3_one rfl (by rfl) (fun K hK => ?_)
    go_simp
    have hz9 := hY.alloc hY.size (.cells zS 74)
    have hgz := heap_alloc_last Y (.cells zS 74)
    have hbz := Below.allocs Y (.cells zS 74)
    have hlz : w1.heap.size ≤ Y.heap.size := hY.size
    refine Shut.out hK _ _ hz9 ?_
    clear hK K
    try simp only [Act.put, zA, zB, zC]
    generalize Y.alloc (.cells zS 74) = z at *
    have HO1 := Lib.hid (own_touch HO1.out (Turns.of_below (S := fun _ => False) hbz) (fun _ _ h => h))
    have HG7 := Lib.hid hgz
    have HL7 := Lib.hid hlz
    have hz := hz9
    obtain ⟨g7, HEg⟩ : ∃ n, Y.heap.size = n := ⟨_, rfl⟩
    rw [HEg] at HG7 HL7
    simp only [HEg]
    clear HEg
    refine K101 _ _ ?_
    try simp only [Act.put, zA, zB, zC]
    exact ⟨p1, c1, g7, rfl, hz, HO1.out, HL7.out, HG7.out⟩
  intro K100
  unfold tcC000
  refine tree3_three ?_ ?_ ?_
  ·skip
   refine tree3_one rfl (by rfl) (fun K hK => ?_)
   go_simp
   refine (HNUM.out y0).mono ?_
   rintro e z ⟨p1, c1, rfl, ho1, hbz⟩
   have hz9 := hy0.trans (hbz.mono hy0.size)
   have HO1 := Lib.hid (own_base (base' := w1.heap.size) ho1 (fun k hk => Nat.le_trans hy0.size (ho1.lt k hk).1))
   refine Shut.out hK _ _ hz9 ?_
   clear hK K ho1
   try simp only [Act.put, zA, zB, zC]
   have hz := hz9
   refine K100 _ _ ?_
   try simp only [Act.put, zA, zB, zC]
   exact ⟨p1, c1, rfl, hz, HO1.out⟩
  ·skip
   refine tree3_one rfl (by rfl) (fun K hK => ?_)
   go_simp
   have hz9 := hy0.alloc hy0.size (.cells zD 65)
   have hgz := heap_alloc_last y0 (.cells zD 65)
   have hbz := Below.allocs y0 (.cells zD 65)
   have hlz : w1.heap.size ≤ y0.heap.size := hy0.size
   refine Shut.out hK _ _ hz9 ?_
   clear hK K
   try simp only [Act.put, zA, zB, zC]
   generalize y0.alloc (.cells zD 65) = z at *
   have HG6 := Lib.hid hgz
   have HL6 := Lib.hid hlz
   have hz := hz9
   obtain ⟨g6, HEg⟩ : ∃ n, y0.heap.size = n := ⟨_, rfl⟩
   rw [HEg] at HG6 HL6
   simp only [HEg]
   clear HEg
   refine K010 _ _ ?_
   try simp only [Act.put, zA, zB, zC]
   exact ⟨g6, rfl, hz, HL6.out, HG6.out⟩
  ·skip
   refine tree3_one rfl (by rfl) (fun K hK => ?_)
   go_simp
   have hz9 := hy0.alloc hy0.size (.cells zS 74)
   have hgz := heap_alloc_last y0 (.cells zS 74)
   have hbz := Below.allocs y0 (.cells zS 74)
   have hlz : w1.heap.size ≤ y0.heap.size := hy0.size
   refine Shut.out hK _ _ hz9 ?_
   clear hK K
   try simp only [Act.put, zA, zB, zC]
   generalize y0.alloc (.cells zS 74) = z at *
   have HG7 := Lib.hid hgz
   have HL7 := Lib.hid hlz
   have hz := hz9
   obtain ⟨g7, HEg⟩ : ∃ n, y0.heap.size = n := ⟨_, rfl⟩
   rw [HEg] at HG7 HL7
   simp only [HEg]
   clear HEg
   refine K001 _ _ ?_
   try simp only [Act.put, zA, zB, zC]
   exact ⟨g7, rfl, hz, HL7.out, HG7.out⟩
 rintro a wx ⟨T', ps', cs', g6, g7, p1, c1, n2, p2, c2, v14, v15, v16, v17, v18, v19, v21, rfl, hyE, hl6, hg6, hg7, hrd, hrb⟩
 try simp only [Act.put, zA, zB, zC]
 have HLB : Hid (w.heap.size + 2 ≤ w1.heap.size) := by show _ ≤ _; have := (Array.getElem?_eq_some_iff.1 HZX.out).1; omega
 have HROWX := Lib.hid (Below.keepOld hyE HROW.out)
 have HZXX := Lib.hid (Below.keepOld hyE HZX.out)
 have HRVX := Lib.hid (HRV.out.below hyE)
 have HLOWX := Lib.hid (HLOW.out.trans (hyE.mono HLOW.out.size))
 have HG6 := Lib.hid hg6
 have HG7 := Lib.hid hg7
 have HL6 : Hid (w.heap.size + 2 ≤ g6) := by show _ ≤ _; have := HLB.out; omega
 have HRD := Lib.hid hrd
 have HRB := Lib.hid hrb
 have HT3 := Lib.hid hrd.n3
 have HTM := Lib.hid hrd.m3
 clear hyE hl6 hg6 hg7 hrd hrb HROW HZX HRV HPUT HNUM HC14
 obtain ⟨q1, q2, q3⟩ := rv_store0 HN3.out HM3.out HROWX.out HRD.out HRVX.out
 have HRY := Lib.hid q1
 have HVY := Lib.hid q2
 have HTY := Lib.hid q3
 have HTHR : Hid (wx.there w.heap.size 0 (rdA T' D9).size) := there_row HROWX.out 0 _ (by rw [rdA_size HT3.out HTM.out, HSZ.out]; omega)
 clear q1 q2 q3
 go_upto_region 5 with (first
  | refine wpList_load_row rfl 65 _ rfl g6 rfl 65 (rdA T' D9) (0, 0) _ HG6.out Tryz.underlying65 rfl (infoRD _ (rdA_size HT3.out HTM.out)) ?_
  | refine wpList_store_mid rfl 65 _ _ rfl w.heap.size 0 (rdA T' D9) rfl rfl HTHR.out (infoRD _ (rdA_size HT3.out HTM.out)) (rdA_one HT3.out HTM.out) ?_)
 try simp only [Act.put]
 have HZY := Lib.hid (HTY.out.keep HZXX.out (show ¬ w.heap.size + 1 = w.heap.size by omega))
 have HG6Y := Lib.hid (HTY.out.keep HG6.out (by have := HL6.out; omega))
 have HG7Y := Lib.hid (HTY.out.keep HG7.out (fun e => by
  have h1 := HROWX.out
  have h2 := HG7.out
  rw [e, h1] at h2
  injection h2 with e1
  injection e1 with _ e2
  exact absurd e2 (by decide)))
 have HRBY := Lib.hid (HRB.out.step (kr_turn (base := 0) HTY.out HROWX.out (by decide) (by decide)))
 have HLOWY := Lib.hid (HLOWX.out.trans (HTY.out.below HLOWX.out.size (fun i hi => by have hi : i = w.heap.size := hi; omega)))
 clear HTY HZXX HLOWX HROWX HRVX HTHR HG6 HG7 HRB HRD
 generalize wx.setCells w.heap.size 0 (rdA T' D9).toList = wy at *
 obtain ⟨q1, q2, q3⟩ := rv_store9 HRY.out HRBY.out HVY.out
 have HRZ := Lib.hid q1
 have HVZ := Lib.hid q2
 have HTZ := Lib.hid q3
 have HTHR : Hid (wy.there w.heap.size 9 (rsA 1 2 S9 ps' cs').size) := there_row HRY.out 9 _ (by rw [rvA_size HT3.out HTM.out]; show 9 + 5 ≤ 18; omega)
 clear q1 q2 q3
 go_upto_region 6 with (first
  | refine wpList_load_row rfl 74 _ rfl g7 rfl 74 (rsA 1 2 S9 ps' cs') (0, 0) _ HG7Y.out Tryz.underlying74 rfl (infoRS _ rfl) ?_
  | refine wpList_store_mid rfl 74 _ _ rfl w.heap.size 9 (rsA 1 2 S9 ps' cs') rfl rfl HTHR.out (infoRS _ rfl) (rsA_one _ _ _ _ _) ?_)
 try simp only [Act.put]
 have HZZ := Lib.hid (HTZ.out.keep HZY.out (show ¬ w.heap.size + 1 = w.heap.size by omega))
 have HG6Z := Lib.hid (HTZ.out.keep HG6Y.out (by have := HL6.out; omega))
 have HLOWZ := Lib.hid (HLOWY.out.trans (HTZ.out.below HLOWY.out.size (fun i hi => by have hi : i = w.heap.size := hi; omega)))
 clear HTZ HZY HG6Y HG7Y HRBY HLOWY HRY HVY HTHR
 generalize wy.setCells w.heap.size 9 (rsA 1 2 S9 ps' cs').toList = wz at *
 have HSZ9 := Lib.hid (fun (T' : List RF) (D : DD) (h3 : T'.length = 3) (hm : D.fs.length = 3) (v' : VS) (pb' : Option Addr) (cb' : Nat) (pa' : Option Addr) (ca' : Nat) => rvA_size h3 hm S9 ps' cs' v' pb' cb' pa' ca')
 have HON9 := Lib.hid (fun (T' : List RF) (D : DD) (h3 : T'.length = 3) (hm : D.fs.length = 3) (v' : VS) (pb' : Option Addr) (cb' : Nat) (pa' : Option Addr) (ca' : Nat) => rvA_one h3 hm S9 ps' cs' v' pb' cb' pa' ca')
 by_cases he : E9 = 0
 rotate_left
 ·have q1 : (E9 == 0) = false := beq_eq_false_iff_ne.2 he
  have q2 : (E9 != 0) = true := bne_iff_ne.2 he
  rw [if_neg he] at HVV HVE HVD
  clear he
  go_wp2_with (first
   | refine wpList_load_row rfl 76 _ rfl w.heap.size rfl 76 (rvA T' D9 S9 ps' cs' v pb cb pa ca) (0, 0) _ HRZ.out Tryz.underlying76 rfl (infoRV _ (HSZ9.out T' D9 HT3.out HTM.out v pb cb pa ca)) ?_
   | refine wpList_store_row rfl 76 _ _ rfl (w.heap.size + 1) (rvA T' D9 S9 ps' cs' v pb cb pa ca) rfl rfl 76 zRV HZZ.out (infoRV _ (HSZ9.out T' D9 HT3.out HTM.out v pb cb pa ca)) (by rw [HSZ9.out T' D9 HT3.out HTM.out v pb cb pa ca]; rfl) (HON9.out T' D9 HT3.out HTM.out v pb cb pa ca) ?_)
  have HS := Lib.hid (setRow_heap _ _ _ (rvA T' D9 S9 ps' cs' v pb cb pa ca) _ _ HZZ.out)
  refine bodyPost_ret (results_cell_tmp2 rfl _ _ _ _ _ _ _ rfl HS.out Tryz.underlying76 rfl (infoRV _ (HSZ9.out T' D9 HT3.out HTM.out v pb cb pa ca))) rfl ?_
  exact ⟨T', ps', cs', pb, cb, pa, ca, by rw [HVE.out, HVD.out, HVS.out, HVV.out]; rfl, by rw [HVD.out, HVS.out, HVV.out]; exact box_off HVZ.out HZZ.out, below_setRow HLOWZ.out (by omega) _, fun k hk => by rw [HVV.out] at hk; exact hk⟩
 have q1 : (E9 == 0) = true := beq_iff_eq.2 he
 have q2 : (E9 != 0) = false := by rw [bne_eq_false_iff_eq]; exact he
 have HE9 := Lib.hid he
 rw [if_pos he] at HVV HVE HVD
 clear he
 obtain ⟨-, hc15, -, -⟩ := rv_cells HT3.out HTM.out HRZ.out
 have hfz := frozen_of_row _ _ 15 _ _ HRZ.out
 obtain ⟨r1, r2, r3⟩ := rv_cell (v' := ⟨v.last, true, v.body, v.after⟩) (pb' := pb) (cb' := cb) (pa' := pa) (ca' := ca) 15 1 (.bool true) rfl HRZ.out HVZ.out.rd HVZ.out.sb rfl HVZ.out.vb HVZ.out.af
 have HR8 := Lib.hid r1
 have HV8 := Lib.hid r2
 have HZ8 := Lib.hid (r3.keep HZZ.out (show ¬ w.heap.size + 1 = w.heap.size by omega))
 have HG8 := Lib.hid (r3.keep HG6Z.out (by have := HL6.out; omega))
 have HL8 := Lib.hid (HLOWZ.out.trans (r3.below HLOWZ.out.size (fun i hi => by have hi : i = w.heap.size := hi; omega)))
 clear r1 r2 r3
 go_upto_region 9 with fail
 clear hc15 hfz HRZ HVZ HZZ HG6Z HLOWZ
 generalize wz.setCell ⟨w.heap.size, 15, none⟩ (.bool true) = w8 at *
 have hal7 := Below.allocs w8 (.cells #[] 5)
 have HB7 := Lib.hid hal7
 have HO7 : Hid ((w8.alloc (.cells #[] 5)).ownsRow w8.heap.size 5 1 (.slice (some ⟨w8.heap.size, 0, none⟩) 0 0) 0 []) := own_made0 w8 _ _ _ _ rfl (Nat.le_refl _)
 have HX7 := Lib.hid (HBW0.out.below (HL8.out.trans (hal7.mono HL8.out.size)))
 have HSZ7 : Hid (w8.heap.size ≤ (w8.alloc (.cells #[] 5)).heap.size) := hal7.size
 clear hal7
 go_wp2_with (at_builtin; refine wpList_append_nx rfl _ _ 22 rfl (base := w8.heap.size) Tryz.underlying22 info8 rfl (by omega) rfl HO7.out rfl HX7.out (bytesV_one _) ⟨by omega, by omega⟩ HSZ7.out ?_)
 intro p9 c9 w9 o9 hg9 _ _
 have hb9 : Below w8.heap.size w8 w9 := HB7.out.grown hg9 HSZ7.out (fun k hk => (HO7.out.lt k hk).1)
 have HB9 := Lib.hid (RBs.own o9)
 have HR9 := Lib.hid (Below.keepOld hb9 HR8.out)
 have HV9 := Lib.hid (HV8.out.below hb9)
 have HZ9 := Lib.hid (Below.keepOld hb9 HZ8.out)
 have HG9 := Lib.hid (Below.keepOld hb9 HG8.out)
 have HL9 := Lib.hid (HL8.out.trans (hb9.mono HL8.out.size))
 clear o9 hg9 hb9 HO7 HX7 HSZ7 HB7 HR8 HV8 HZ8 HG8 HL8
 obtain ⟨-, -, hc16, -⟩ := rv_cells HT3.out HTM.out HR9.out
 have hfz := frozen_of_row _ _ 16 _ _ HR9.out
 obtain ⟨r1, r2, r3⟩ := rv_cell (v' := ⟨v.last, true, x, v.after⟩) (pb' := p9) (cb' := c9) (pa' := pa) (ca' := ca) 16 2 (.slice p9 x.length c9) rfl HR9.out HV9.out.rd HV9.out.sb rfl HB9.out HV9.out.af
 have HRA := Lib.hid r1
 have HVA := Lib.hid r2
 have HZA := Lib.hid (r3.keep HZ9.out (show ¬ w.heap.size + 1 = w.heap.size by omega))
 have HGA := Lib.hid (r3.keep HG9.out (by have := HL6.out; omega))
 have HLA2 := Lib.hid (HL9.out.trans (r3.below HL9.out.size (fun i hi => by have hi : i = w.heap.size := hi; omega)))
 clear r1 r2 r3
 go_upto_region 10 with fail
 clear hc16 hfz HR9 HV9 HZ9 HG9 HL9 HB9
 generalize w9.setCell ⟨w.heap.size, 16, none⟩ (.slice p9 x.length c9) = wA at *
 obtain ⟨-, -, -, hc17⟩ := rv_cells HT3.out HTM.out HRA.out
 have hfz := frozen_of_row _ _ 17 _ _ HRA.out
 obtain ⟨r1, r2, r3⟩ := rv_cell (v' := ⟨v.last, true, x, []⟩) (pb' := p9) (cb' := c9) (pa' := none) (ca' := 0) 17 3 (.slice none 0 0) rfl HRA.out HVA.out.rd HVA.out.sb rfl HVA.out.vb (LsR.nil _)
 have HRB := Lib.hid r1
 have HVB := Lib.hid r2
 have HZB := Lib.hid (r3.keep HZA.out (show ¬ w.heap.size + 1 = w.heap.size by omega))
 have HGB := Lib.hid (r3.keep HGA.out (by have := HL6.out; omega))
 have HLB2 := Lib.hid (HLA2.out.trans (r3.below HLA2.out.size (fun i hi => by have hi : i = w.heap.size := hi; omega)))
 clear r1 r2 r3
 go_upto_region 11 with fail
 clear hc17 hfz HRA HVA HZA HGA HLA2
 generalize wA.setCell ⟨w.heap.size, 17, none⟩ (.slice none 0 0) = wB at *
 have HCLR := Lib.hid (HCLR0.out T' wB HE9.out HVB.out.rd)
 clear HCLR0
 generalize clrD D9 0 0 = DC at *
 generalize clrE D9 0 0 = EC at *
 have HRNG := Lib.hid (rv_range0 HRB.out)
 go_wp2_with (refine wpList_load_mid rfl 65 _ rfl w.heap.size 0 rfl (rdA T' D9).toList _ HRNG.out Tryz.underlying65 rfl (infoRD (rdA T' D9) (rdA_size HT3.out HTM.out)) ?_)
 refine HCLR.out.mono ?_
 rintro e wC ⟨TC, rfl, hrd, hbC⟩
 have hgC := Below.keepOld hbC HGB.out
 have HC3 := Lib.hid hrd.n3
 have HCM := Lib.hid hrd.m3
 have hkr := kr_turn (base := 0) (turns_setRow wC g6 (rdA TC DC)) hgC (by decide) (by decide)
 have HRDC := Lib.hid (hrd.step hkr)
 have HGC := Lib.hid hgC
 have HGD := Lib.hid (setRow_heap _ _ _ (rdA TC DC) _ _ hgC)
 have hne6 : ∀ k, k < w.heap.size + 2 → k ≠ g6 := fun k hk => by have := HL6.out; omega
 have HRC : Hid ((wC.setRow g6 (rdA TC DC)).heap[w.heap.size]? = some (.cells (rvA T' D9 S9 ps' cs' ⟨v.last, true, x, []⟩ p9 c9 none 0) 76 (0, 0))) := by show _ = _; rw [setRow_other _ _ _ _ (hne6 _ (by omega))]; exact Below.keepOld hbC HRB.out
 have HZC : Hid ((wC.setRow g6 (rdA TC DC)).heap[w.heap.size + 1]? = some (.cells zRV 76 (0, 0))) := by show _ = _; rw [setRow_other _ _ _ _ (hne6 _ (by omega))]; exact Below.keepOld hbC HZB.out
 have HVC : Hid (RVR (wC.setRow g6 (rdA TC DC)) T' D9 S9 ps' cs' ⟨v.last, true, x, []⟩ p9 c9 none 0) := ⟨(HVB.out.rd.below hbC).step hkr, (HVB.out.sb.below hbC).step hkr, (HVB.out.vb.below hbC).step hkr, LsR.nil _⟩
 have HLC := Lib.hid (below_setRow (HLB2.out.trans (hbC.mono HLB2.out.size)) (show w.heap.size ≤ g6 by have := HL6.out; omega) (rdA TC DC))
 clear hgC hkr hrd hbC hne6 HGB HRB HZB HVB HLB2 HCLR HRNG
 go_upto_region 12 with (refine wpList_store_row rfl 65 _ _ rfl g6 (rdA TC DC) rfl rfl 65 (rdA T' D9) HGC.out (infoRD _ (rdA_size HC3.out HCM.out)) (by rw [rdA_size HC3.out HCM.out, rdA_size HT3.out HTM.out]) (rdA_one HC3.out HCM.out) ?_)
 try simp only [Act.put, zA, zB, zC]
 clear HGC
 generalize wC.setRow g6 (rdA TC DC) = wD at *
 obtain ⟨q5, q6, q7⟩ := rv_store0 HT3.out HTM.out HRC.out HRDC.out HVC.out
 have HRE := Lib.hid q5
 have HVE2 := Lib.hid q6
 have HTE := Lib.hid q7
 have HTHR : Hid (wD.there w.heap.size 0 (rdA TC DC).size) := there_row HRC.out 0 _ (by rw [rdA_size HC3.out HCM.out, rvA_size HT3.out HTM.out]; omega)
 clear q5 q6 q7
 go_upto_region 13 with (first
  | refine wpList_load_row rfl 65 _ rfl g6 rfl 65 (rdA TC DC) (0, 0) _ HGD.out Tryz.underlying65 rfl (infoRD _ (rdA_size HC3.out HCM.out)) ?_
  | refine wpList_store_mid rfl 65 _ _ rfl w.heap.size 0 (rdA TC DC) rfl rfl HTHR.out (infoRD _ (rdA_size HC3.out HCM.out)) (rdA_one HC3.out HCM.out) ?_)
 try simp only [Act.put]
 have HZE := Lib.hid (HTE.out.keep HZC.out (show ¬ w.heap.size + 1 = w.heap.size by omega))
 have HLE := Lib.hid (HLC.out.trans (HTE.out.below HLC.out.size (fun i hi => by have hi : i = w.heap.size := hi; omega)))
 clear HTE HZC HLC HRC HVC HTHR HGD HRDC
 generalize wD.setCells w.heap.size 0 (rdA TC DC).toList = wE at *
 go_wp2_with (first
  | refine wpList_load_row rfl 76 _ rfl w.heap.size rfl 76 (rvA TC DC S9 ps' cs' ⟨v.last, true, x, []⟩ p9 c9 none 0) (0, 0) _ HRE.out Tryz.underlying76 rfl (infoRV _ (HSZ9.out TC DC HC3.out HCM.out ⟨v.last, true, x, []⟩ p9 c9 none 0)) ?_
  | refine wpList_store_row rfl 76 _ _ rfl (w.heap.size + 1) (rvA TC DC S9 ps' cs' ⟨v.last, true, x, []⟩ p9 c9 none 0) rfl rfl 76 zRV HZE.out (infoRV _ (HSZ9.out TC DC HC3.out HCM.out ⟨v.last, true, x, []⟩ p9 c9 none 0)) (by rw [HSZ9.out TC DC HC3.out HCM.out ⟨v.last, true, x, []⟩ p9 c9 none 0]; rfl) (HON9.out TC DC HC3.out HCM.out ⟨v.last, true, x, []⟩ p9 c9 none 0) ?_)
 have HS := Lib.hid (setRow_heap _ _ _ (rvA TC DC S9 ps' cs' ⟨v.last, true, x, []⟩ p9 c9 none 0) _ _ HZE.out)
 refine bodyPost_ret (results_cell_tmp2 rfl _ _ _ _ _ _ _ rfl HS.out Tryz.underlying76 rfl (infoRV _ (HSZ9.out TC DC HC3.out HCM.out ⟨v.last, true, x, []⟩ p9 c9 none 0))) rfl ?_
 exact ⟨TC, ps', cs', p9, c9, none, 0, by rw [HVE.out, HVD.out, HVS.out, HVV.out]; rfl, by rw [HVD.out, HVS.out, HVV.out]; exact box_off HVE2.out HZE.out, below_setRow HLE.out (by omega) _, fun k hk => by rw [HVV.out] at hk; cases hk⟩
end Go.Proofs.YtnejjfglkindjaaGreatDoor.Vlt
namespace Go.Proofs.YtnejjfglkindjaaGreatDoor.Vlt
open Go.RowKit Go.Mir Go.Mir.Parts Dk Rol Wr Slt Cut Rk
open Frm (frame scan)
def ropE (d : DD) : Int := if opnE d 0 = 0 then (if (vopF d).isSome then 0 else 4) else opnE d 0
def RVOpP (d : DD) (w : World) (e : Ending) (w' : World) : Prop :=
 ∃ T v ps cs pb cb pa ca, e = .returned (.tuple #[.agg (rvA T (opnD d 0) (opnS d 1 2) ps cs v pb cb pa ca), .int .i64 (ropE d)]) ∧ RVR w' T (opnD d 0) (opnS d 1 2) ps cs v pb cb pa ca ∧ Below w.heap.size w w' ∧ (opnE d 0 = 0 → ∀ v', vopF d = some v' → v = v') ∧ ∀ k, (Value.slice pa v.after.length ca).ownBlock = some k → w.heap.size ≤ k
theorem built_rv {T : List RF} {d : DD} (h1 : T.length = 3) (h2 : d.fs.length = 3) (s : SS) (ps : Option Addr) (cs : Nat) : Tryz.prog.built 76 [(0, .agg (rdA T d)), (1, .agg (rsA 1 2 s ps cs))] = some (rvA T d s ps cs VS.zero none 0 none 0) := by
 obtain ⟨a, b, c, x, y, z, rfl, hd⟩ := rdA_form h1 h2
 obtain ⟨fs, room, fuse, down⟩ := d
 subst hd
 kernel_rfl
theorem wpList_buildSl {ops : Array Oper} {rest : List Oper} {o : Oper} {a : Act} {w : World} {Q : Exit → Act → World → Prop} (hg : o.guard = none) (x : Operand) (ho : o.op = .buildSlice 31 1 #[(0, x)]) (p : Option Addr) (n c : Nat) (hx : a.eval x = .slice p n c)
  (h : wpList Tryz.prog ops Q rest (a.put o.dst (.slice (some ⟨w.heap.size, 0, none⟩) 1 1)) (w.alloc (.cells #[.slice p n c] 22))) : wpList Tryz.prog ops Q (o :: rest) a w := by
 obtain ⟨i, hi, hiv⟩ := Option.map_eq_some_iff.1 infoS
 obtain ⟨h1, h2, _⟩ := (by simpa using hiv : i.zero = some (.slice none 0 0) ∧ i.size = 1 ∧ i.bytes = 24)
 refine wpList_buildSlice hg 31 22 1 _ ho _ i _ Tryz.underlying31 hi h1 (by rw [h2]; omega) (by rw [h2]; omega) ?_ h
 have : (#[(0, x)].map fun (p : Nat × Operand) => (p.1, a.eval p.2)).toList = [(0, .slice p n c)] := by simp [hx]
 rw [this, h2, show Array.map (fun x => (Value.slice none 0 0).cells[x % (Value.slice none 0 0).cells.size]!) (Array.range (1 * 1)) = #[.slice none 0 0] from by kernel_rfl]
 simp [Instr.fill, Value.cells]
theorem vopF_runs {d : DD} {v0 : VS} (h : startV (opnS d 1 2) = some v0) : vopF d = runV v0 (scan (fD (opnD d 0) 0).now).1 := by
 unfold vopF fillV
 rw [h]
 rfl
theorem vopF_no {d : DD} (h : startV (opnS d 1 2) = none) : vopF d = none := by
 unfold vopF fillV
 rw [h]
 rfl
structure RL (g6 : Nat) (T : List RF) (D : DD) (S : SS) (ps : Option Addr) (cs : Nat) (v0 v : VS) (pb : Option Addr) (cb : Nat) (pa : Option Addr) (ca : Nat) (L : List (List UInt8)) (wB : World) (i : Nat) (wr : World) : Prop where
 row : wr.heap[g6]? = some (.cells (rvA T D S ps cs v pb cb pa ca) 76 (0, 0))
 rv : RVR wr T D S ps cs v pb cb pa ca
 run : runV v0 (L.take i) = some v
 tb : Turns (fun k => k = g6) wB wr
 own : ∀ k, (Value.slice pa v.after.length ca).ownBlock = some k → wB.heap.size ≤ k
 len : v.after.length ≤ i
 last : v.last < 18446744073709551616
variable {g6 : Nat} {T : List RF} {D : DD} {S : SS} {ps : Option Addr} {cs : Nat} {v0 v : VS} {pb : Option Addr} {cb : Nat} {pa : Option Addr} {ca : Nat} {L : List (List UInt8)} {wB : World} {i : Nat} {wr w' : World}
theorem RL.below (h : RL g6 T D S ps cs v0 v pb cb pa ca L wB i wr) (hb : Below wr.heap.size wr w') : RL g6 T D S ps cs v0 v pb cb pa ca L wB i w' :=
 ⟨Below.keepOld hb h.row, h.rv.below hb, h.run, h.tb.trans (Turns.of_below (S := fun k => k = g6) hb) (fun _ _ hS => hS), h.own, h.len, h.last⟩
theorem RL.skip (h : RL g6 T D S ps cs v0 v pb cb pa ca L wB i wr) (hi : i < L.length) (hs : stepV v L[i] = some v) : RL g6 T D S ps cs v0 v pb cb pa ca L wB (i + 1) wr :=
 ⟨h.row, h.rv, by rw [take_snoc L i hi, runV_snoc, h.run]; exact hs, h.tb, h.own, Nat.le_succ_of_le h.len, h.last⟩
theorem RL.bad (h : RL g6 T D S ps cs v0 v pb cb pa ca L wB i wr) (hi : i < L.length) (hs : stepV v L[i] = none) : runV v0 L = none := by
 have e : L = L.take (i + 1) ++ L.drop (i + 1) := (List.take_append_drop _ _).symm
 rw [e]
 refine runV_none _ _ _ ?_
 rw [take_snoc L i hi, runV_snoc, h.run]; exact hs
theorem LsR.kr {w w' : World} {v : Value} {ls : List (List UInt8)} (h : LsR w v ls) (ht : Turns (fun k => v.ownBlock = some k) w w') : KR 0 w w' := by
 obtain ⟨hs, h1, -⟩ := h.all
 refine Turns.imp ht (fun i _ hi => ?_)
 rcases h1.2 with ⟨e, _⟩ | ⟨g, cap, cur, e, _, hg, _⟩
 ·rw [e] at hi; cases hi
 ·rw [e] at hi
  simp only [Value.ownBlock, Option.some.injEq] at hi
  subst hi
  exact ⟨_, _, _, hg, by decide, by decide⟩
set_option maxRecDepth 100000 in
set_option maxHeartbeats 6400000 in
theorem rvopen_any (T : List RF) (d : DD) (w : World) (h : RDB w T d) (hdn : d.down = false) (hur : usedL d.fs ≤ d.room) (hfew : (fD d 0).steps.length + 1 ≤ 2199023255552) :
  Calls Tryz.prog 27 #[.agg (rdA T d)] w (RVOpP d w) := by
 have hz := zeroRV
 have hzs := zeroRS
 obtain ⟨q1, q2, q3, q4⟩ := two_allocs w (.cells (rdA T d) 65) (.cells zRV 76)
 have HG1 := Lib.hid q1
 have HZ1 := Lib.hid q2
 have HL1 := Lib.hid q4
 have HRD1 := Lib.hid (h.below q4)
 have HN3 := Lib.hid h.n3
 have HM3 := Lib.hid h.m3
 have HOP := Lib.hid (fun y (hy : RDB y T d) => ropenS_any T d 1 2 (by omega) (by omega) (by omega) hdn y hy)
 have HRO := Lib.hid (fun y (hy : RDB y T d) => ropen_any T d 0 (by omega) y hy hur hfew)
 clear q1 q2 q3 q4 h hdn hur hfew
 go_enter Tryz.func27, Tryz.ntmps27
 go_upto_region 1 with fail
 generalize (w.alloc (.cells (rdA T d) 65)).alloc (.cells zRV 76) = w1 at *
 have HOP1 := Lib.hid (HOP.out w1 HRD1.out)
 clear HOP
 unfold ROpP at HOP1
 obtain ⟨S9, hS9⟩ : ∃ S, opnS d 1 2 = S := ⟨_, rfl⟩
 rw [hS9] at HOP1
 have HS9 := Lib.hid hS9
 clear hS9
 go_wp2_with (refine wpList_load_row rfl 65 _ rfl w.heap.size rfl 65 (rdA T d) (0, 0) _ HG1.out Tryz.underlying65 rfl (infoRD _ (rdA_size HN3.out HM3.out)) ?_)
 refine HOP1.out.mono ?_
 rintro e wC ⟨ps', cs', rfl, hrb, hbC⟩
 have hal := Below.allocs wC (.cells zS 74)
 have hnew := heap_alloc_last wC (.cells zS 74)
 have hbX := below_setRow (hbC.trans (hal.mono hbC.size)) hbC.size (rsA 1 2 S9 ps' cs')
 have hkr := kr_turn (base := 0) (turns_setRow (wC.alloc (.cells zS 74)) wC.heap.size (rsA 1 2 S9 ps' cs')) hnew (by decide) (by decide)
 have NEW := Lib.hid hnew
 have HG4 := Lib.hid (setRow_heap _ _ _ (rsA 1 2 S9 ps' cs') _ _ hnew)
 have HG12 := Lib.hid (Below.keepOld hbX HG1.out)
 have HZ2 := Lib.hid (Below.keepOld hbX HZ1.out)
 have HL2 := Lib.hid (HL1.out.trans (hbX.mono HL1.out.size))
 have HRD2 := Lib.hid (HRD1.out.below hbX)
 have HRB2 := Lib.hid ((hrb.below hal).step hkr)
 have HGL : Hid (w.heap.size + 2 ≤ wC.heap.size) := by show _ ≤ _; have := (Array.getElem?_eq_some_iff.1 HZ1.out).1; have := hbC.size; omega
 clear hal hnew hbX hkr hrb hbC HG1 HZ1 HL1 HRD1 HOP1
 go_upto_region 2 with (refine wpList_store_row rfl 74 _ _ rfl wC.heap.size (rsA 1 2 S9 ps' cs') rfl rfl 74 zS NEW.out (infoRS _ rfl) rfl (rsA_one _ _ _ _ _) ?_)
 try simp only [Act.put, zA, zB, zC]
 clear NEW
 generalize (wC.alloc (.cells zS 74)).setRow wC.heap.size (rsA 1 2 S9 ps' cs') = w2 at *
 generalize wC.heap.size = g4 at *
 have HRO2 := Lib.hid (HRO.out w2 HRD2.out)
 clear HRO
 unfold ROut at HRO2
 obtain ⟨D9, hD9⟩ : ∃ D, opnD d 0 = D := ⟨_, rfl⟩
 obtain ⟨E9, hE9⟩ : ∃ E, opnE d 0 = E := ⟨_, rfl⟩
 rw [hD9, hE9] at HRO2
 have HD9 := Lib.hid hD9
 have HE9 := Lib.hid hE9
 clear hD9 hE9
 go_wp2_with (refine wpList_load_row rfl 65 _ rfl w.heap.size rfl 65 (rdA T d) (0, 0) _ HG12.out Tryz.underlying65 rfl (infoRD _ (rdA_size HN3.out HM3.out)) ?_)
 refine HRO2.out.mono ?_
 rintro e wD ⟨T', rfl, hrd, hbD⟩
 have hg1 := Below.keepOld hbD HG12.out
 have HT3 := Lib.hid hrd.n3
 have HTM := Lib.hid hrd.m3
 have hkr := kr_turn (base := 0) (turns_setRow wD w.heap.size (rdA T' D9)) hg1 (by decide) (by decide)
 have HK1 := Lib.hid hg1
 have HG1 := Lib.hid (setRow_heap _ _ _ (rdA T' D9) _ _ hg1)
 have HRD3 := Lib.hid (hrd.step hkr)
 have HRB3 := Lib.hid ((HRB2.out.below hbD).step hkr)
 have HG43 : Hid ((wD.setRow w.heap.size (rdA T' D9)).heap[g4]? = some (.cells (rsA 1 2 S9 ps' cs') 74 (0, 0))) := by show _ = _; rw [setRow_other _ _ _ _ (by have := HGL.out; omega)]; exact Below.keepOld hbD HG4.out
 have HZ3 : Hid ((wD.setRow w.heap.size (rdA T' D9)).heap[w.heap.size + 1]? = some (.cells zRV 76 (0, 0))) := by show _ = _; rw [setRow_other _ _ _ _ (by omega)]; exact Below.keepOld hbD HZ2.out
 have HL3 := Lib.hid (below_setRow (HL2.out.trans (hbD.mono HL2.out.size)) (Nat.le_refl _) (rdA T' D9))
 clear hg1 hkr hrd hbD HG12 HZ2 HL2 HRD2 HRB2 HG4 HRO2
 go_upto_region 5 with (refine wpList_store_row rfl 65 _ _ rfl w.heap.size (rdA T' D9) rfl rfl 65 (rdA T d) HK1.out (infoRD _ (rdA_size HT3.out HTM.out)) (by rw [rdA_size HT3.out HTM.out, rdA_size HN3.out HM3.out]) (rdA_one HT3.out HTM.out) ?_)
 try simp only [Act.put, zA, zB, zC]
 clear HK1 HN3 HM3
 generalize wD.setRow w.heap.size (rdA T' D9) = w3 at *
 have hal := Below.allocs w3 (.cells zRV 76)
 have hnew := heap_alloc_last w3 (.cells zRV 76)
 have hbX := below_setRow hal (Nat.le_refl _) (rvA T' D9 S9 ps' cs' VS.zero none 0 none 0)
 have NEW := Lib.hid hnew
 have HRW := Lib.hid (setRow_heap _ _ _ (rvA T' D9 S9 ps' cs' VS.zero none 0 none 0) _ _ hnew)
 have hrv0 : RVR w3 T' D9 S9 ps' cs' VS.zero none 0 none 0 := ⟨HRD3.out, HRB3.out, RBs.nil _, LsR.nil _⟩
 have HRVX := Lib.hid (hrv0.below hbX)
 have HG1X := Lib.hid (Below.keepOld hbX HG1.out)
 have HG4X := Lib.hid (Below.keepOld hbX HG43.out)
 have HZW := Lib.hid (Below.keepOld hbX HZ3.out)
 have HLW := Lib.hid (HL3.out.trans (hbX.mono HL3.out.size))
 have HG6L : Hid (w.heap.size + 2 ≤ w3.heap.size) := by show _ ≤ _; have := (Array.getElem?_eq_some_iff.1 HG43.out).1; have := HGL.out; omega
 have HBU := Lib.hid (built_rv HT3.out HTM.out S9 ps' cs')
 clear hal hnew hbX hrv0 HRD3 HRB3
 go_upto_region 6 with (first
  | ((with_reducible refine wpAt 25 ?_); refine wpList_load_row rfl 65 _ rfl w.heap.size rfl 65 (rdA T' D9) (0, 0) _ HG1.out Tryz.underlying65 rfl (infoRD _ (rdA_size HT3.out HTM.out)) ?_)
  | ((with_reducible refine wpAt 26 ?_); refine wpList_load_row rfl 74 _ rfl g4 rfl 74 (rsA 1 2 S9 ps' cs') (0, 0) _ HG43.out Tryz.underlying74 rfl (infoRS _ rfl) ?_)
  | refine Rdr.wpList_build rfl 76 _ rfl [(0, .agg (rdA T' D9)), (1, .agg (rsA 1 2 S9 ps' cs'))] rfl _ HBU.out ?_
  | refine wpList_store_row rfl 76 _ _ rfl w3.heap.size (rvA T' D9 S9 ps' cs' VS.zero none 0 none 0) rfl rfl 76 zRV NEW.out (infoRV _ (rvA_size HT3.out HTM.out S9 ps' cs' VS.zero none 0 none 0)) (by rw [rvA_size HT3.out HTM.out S9 ps' cs' VS.zero none 0 none 0]; rfl) (rvA_one HT3.out HTM.out S9 ps' cs' VS.zero none 0 none 0) ?_)
 try simp only [Act.put]
 clear NEW HG1 HG43 HZ3 HL3 HBU
 generalize (w3.alloc (.cells zRV 76)).setRow w3.heap.size (rvA T' D9 S9 ps' cs' VS.zero none 0 none 0) = w4 at *
 generalize w3.heap.size = g6 at *
 have HG1 := Lib.hid HG1X.out
 clear HG1X
 by_cases he : E9 = 0
 rotate_left
 ·have q1 : (E9 == 0) = false := beq_eq_false_iff_ne.2 he
  have q2 : (E9 != 0) = true := bne_iff_ne.2 he
  have HEE : Hid (ropE d = E9) := by show _ = _; unfold ropE; rw [HE9.out, if_neg he]
  have HNE : Hid (¬ E9 = 0) := he
  clear he
  skip
  go_wp2_with (first
   | refine wpList_load_row rfl 76 _ rfl g6 rfl 76 (rvA T' D9 S9 ps' cs' VS.zero none 0 none 0) (0, 0) _ HRW.out Tryz.underlying76 rfl (infoRV _ (rvA_size HT3.out HTM.out S9 ps' cs' VS.zero none 0 none 0)) ?_
   | refine wpList_store_row rfl 76 _ _ rfl (w.heap.size + 1) (rvA T' D9 S9 ps' cs' VS.zero none 0 none 0) rfl rfl 76 zRV HZW.out (infoRV _ (rvA_size HT3.out HTM.out S9 ps' cs' VS.zero none 0 none 0)) (by rw [rvA_size HT3.out HTM.out S9 ps' cs' VS.zero none 0 none 0]; rfl) (rvA_one HT3.out HTM.out S9 ps' cs' VS.zero none 0 none 0) ?_)
  have HS := Lib.hid (setRow_heap _ _ _ (rvA T' D9 S9 ps' cs' VS.zero none 0 none 0) _ _ HZW.out)
  refine bodyPost_ret (results_cell_tmp2 rfl _ _ _ _ _ _ _ rfl HS.out Tryz.underlying76 rfl (infoRV _ (rvA_size HT3.out HTM.out S9 ps' cs' VS.zero none 0 none 0))) rfl ?_
  exact ⟨T', VS.zero, ps', cs', none, 0, none, 0, by rw [HD9.out, HS9.out, HEE.out]; rfl, by rw [HD9.out, HS9.out]; exact box_off HRVX.out HZW.out, below_setRow HLW.out (by omega) _, fun h => absurd (HE9.out.symm.trans h) HNE.out, fun k hk => by cases hk⟩
 have q1 : (E9 == 0) = true := beq_iff_eq.2 he
 have q2 : (E9 != 0) = false := by rw [bne_eq_false_iff_eq]; exact he
 have HOE : Hid (opnE d 0 = 0) := by show _ = _; rw [HE9.out]; exact he
 subst he
 have HNOW : Hid ((fD D9 0).now.length ≤ 1000000) := by
  have h1 := HRVX.out.rd
  have ht : 0 < T'.length := by rw [HT3.out]; omega
  have h2 := h1.each 0 _ _ (List.getElem?_eq_getElem ht) (h1.fd (i := 0) (by omega))
  have h3 : (fD D9 0).need ≤ 1000000 := by
   obtain ⟨t', f', _, a, _, _, b⟩ := h1.at.file 0 (by omega)
   rw [h1.fd (by omega)] at a
   cases a; exact b
  exact Nat.le_trans h2.1.now.ok.le h3
 obtain ⟨L0, hL0⟩ : ∃ L, (scan (fD D9 0).now).1 = L := ⟨_, rfl⟩
 have HL0 := Lib.hid hL0
 clear hL0 HE9
 obtain ⟨-, -, -, hc3, hc4⟩ := rs_cells HG4X.out
 by_cases ht : S9.turn = 0
 ·have hd : decide ((0 : Int) < (S9.turn : Int)) = false := decide_eq_false (by omega)
  have hd' : decide (0 < S9.turn) = false := decide_eq_false (by omega)
  have HSTART : Hid (startV (opnS d 1 2) = some VS.zero) := by show _ = _; rw [HS9.out]; unfold startV; rw [if_pos ht]
  have HAF : Hid (VS.zero.after.length = 0) := rfl
  have HLL : Hid (VS.zero.last < 18446744073709551616) := by show 0 < _; omega
  clear ht
  go_upto_region 14 with fail
  clear hd hd' hc3 hc4
  obtain ⟨v0, hv0⟩ : ∃ v0, VS.zero = v0 := ⟨_, rfl⟩
  rw [hv0] at HSTART HAF HLL HRW HRVX
  clear hv0
  skip
  have hbo := rbodies_any T' D9 0 (by omega) w4 HRVX.out.rd
  unfold RBodP at hbo
  have HNL : Hid (∀ l, L0 = l → l.length ≤ 1000000) := by
   show ∀ l, _ → _
   intro l hl
   have h1 := scan_count (fD D9 0).now
   have h2 := HNOW.out
   rw [HL0.out] at h1
   rw [← hl]
   omega
  rw [HL0.out] at hbo
  have HBO := Lib.hid hbo
  have HRUN : Hid (vopF d = runV v0 L0) := by show _ = _; rw [vopF_runs HSTART.out, HD9.out, HL0.out]
  have HLEN : Hid (L0.length ≤ 1000000) := HNL.out L0 rfl
  clear hbo HNL HL0
  go_wp2_with (refine wpList_load_row rfl 65 _ rfl w.heap.size rfl 65 (rdA T' D9) (0, 0) _ HG1.out Tryz.underlying65 rfl (infoRD _ (rdA_size HT3.out HTM.out)) ?_)
  refine HBO.out.mono ?_
  rintro e wB ⟨vl, rfl, hls, hbB⟩
  have HLS := Lib.hid hls
  have HZB := Lib.hid (Below.keepOld hbB HZW.out)
  have HLB := Lib.hid (HLW.out.trans (hbB.mono HLW.out.size))
  have HRL0 : Hid (RL g6 T' D9 S9 ps' cs' v0 v0 none 0 none 0 L0 wB 0 wB) := ⟨Below.keepOld hbB HRW.out, HRVX.out.below hbB, rfl, Turns.refl _ _, (fun k hh => by cases hh), by rw [HAF.out]; exact Nat.zero_le _, HLL.out⟩
  have HRL0R := Lib.hid HRL0.out.row
  have hpt := hls.ls.sl
  obtain ⟨pl, cl, rfl, hpts⟩ := hpt
  have hlen := HLEN.out
  have hlc := hpts.le
  have hlm := hpts.max
  clear hls hbB HBO HZW HLW HRW HRVX hpts
  go_upto_region 15 with fail
  go_wp2_with fail
  go_loopw [8, 9] (fun j _ wr => ∃ (i : Nat) (v : VS) (pb : Option Addr) (cb : Nat) (pa : Option Addr) (ca : Nat), i ≤ L0.length ∧ j = .int .i64 i ∧ RL g6 T' D9 S9 ps' cs' v0 v pb cb pa ca L0 wB i wr) (fun j _ _ => L0.length - (intOf j).toNat)
  case atStart => exact ⟨0, v0, none, 0, none, 0, Nat.zero_le _, rfl, HRL0.out⟩
  case round =>
   clear HRL0
   obtain ⟨i, v, pb, cb, pa, ca, hi, rfl, hrl⟩ := hrel
   have HRL := Lib.hid hrl
   clear hrl
   have HRW := Lib.hid HRL.out.row
   have HRVX := Lib.hid HRL.out.rv
   have HZW := Lib.hid (HRL.out.tb.keep HZB.out (by have := HG6L.out; omega))
   have HLW := Lib.hid (HLB.out.trans (HRL.out.tb.below HLB.out.size (fun k hk => by have hk : k = g6 := hk; have := HG6L.out; omega)))
   have HEX : Hid (∀ (E : Int) (w9 : World), (E = 0 → runV v0 L0 = some v) → (E ≠ 0 → E = 4 ∧ runV v0 L0 = none) → RVR w9 T' D9 S9 ps' cs' v pb cb pa ca → Below w.heap.size w w9 → RVOpP d w (.returned (.tuple #[.agg (rvA T' D9 S9 ps' cs' v pb cb pa ca), .int .i64 E])) w9) := fun E w9 h1 h2 h3 h4 => by
    refine ⟨T', v, ps', cs', pb, cb, pa, ca, ?_, by rw [HD9.out, HS9.out]; exact h3, h4, fun _ v' hv => ?_, fun k hk => Nat.le_trans HLB.out.size (HRL.out.own k hk)⟩
    ·rw [HD9.out, HS9.out]
     have : ropE d = E := by
      unfold ropE
      rw [if_pos HOE.out, HRUN.out]
      by_cases hE : E = 0
      ·rw [h1 hE, hE]; rfl
      ·rw [(h2 hE).2, (h2 hE).1]; rfl
     rw [this]
    ·rw [HRUN.out] at hv
     by_cases hE : E = 0
     ·rw [h1 hE] at hv; cases hv; rfl
     ·rw [(h2 hE).2] at hv; cases hv
   by_cases hlt : i < L0.length
   ·have hd1 : decide ((i : Int) < (L0.length : Int)) = true := decide_eq_true (by omega)
    have hd2 : decide (i < L0.length) = true := decide_eq_true hlt
    have hlso := lsO_turn HLS.out HRL.out.tb (fun k M t fr hk hm => by
     have hk : k = g6 := hk
     subst hk
     have h1 := HRL.out.row
     have h2 := HRL0R.out
     rw [hm] at h2
     injection h2 with e1
     injection e1 with _ e2
     subst e2
     exact ⟨by decide, by decide⟩)
    obtain ⟨hs9, g1, g2⟩ := hlso.all
    obtain ⟨p', c', he', hsl⟩ := own_sl g1
    cases he'
    obtain ⟨q, kc, e1, e2⟩ := g2 i hlt
    obtain ⟨b, o, rfl⟩ := hsl.addr (by omega) (by omega)
    have hcl := hsl.cell _ rfl i _ e1
    rw [add_none] at hcl
    have HIX : Hid (i < L0.length) := hlt
    have HOX := Lib.hid e2
    have HSK := Lib.hid (fun hs => HRL.out.skip HIX.out hs)
    have HBA := Lib.hid (fun hs => HRL.out.bad HIX.out hs)
    have HTK : Hid (∀ v' : VS, stepV v L0[i] = some v' → runV v0 (L0.take (i + 1)) = some v') := fun v' hs => by rw [take_snoc L0 i HIX.out, runV_snoc, HRL.out.run]; exact hs
    generalize hX : L0[i]'hlt = X at hcl HOX HSK HBA HTK
    have HBX := Lib.hid (Cut.own_bs HOX.out)
    have hxc := HBX.out.le
    have hxm := HBX.out.max
    clear hlso g1 g2 hsl e1 e2 hX
    by_cases h9 : X.length < 9
    ·have d1 : decide ((X.length : Int) < 9) = true := decide_eq_true (by omega)
     have d1' : decide (X.length < 9) = true := decide_eq_true h9
     have hst : stepV v X = none := by unfold stepV; rw [if_pos h9]
     have HNO := Lib.hid (HBA.out hst)
     clear h9 hst
     skip
     go_wp2_with (first
      | refine wpList_load_row rfl 76 _ rfl g6 rfl 76 (rvA T' D9 S9 ps' cs' v pb cb pa ca) (0, 0) _ HRW.out Tryz.underlying76 rfl (infoRV _ (rvA_size HT3.out HTM.out S9 ps' cs' v pb cb pa ca)) ?_
      | refine wpList_store_row rfl 76 _ _ rfl (w.heap.size + 1) (rvA T' D9 S9 ps' cs' v pb cb pa ca) rfl rfl 76 zRV HZW.out (infoRV _ (rvA_size HT3.out HTM.out S9 ps' cs' v pb cb pa ca)) (by rw [rvA_size HT3.out HTM.out S9 ps' cs' v pb cb pa ca]; rfl) (rvA_one HT3.out HTM.out S9 ps' cs' v pb cb pa ca) ?_)
     have HS := Lib.hid (setRow_heap _ _ _ (rvA T' D9 S9 ps' cs' v pb cb pa ca) _ _ HZW.out)
     refine bodyPost_ret (results_cell_tmp2 rfl _ _ _ _ _ _ _ rfl HS.out Tryz.underlying76 rfl (infoRV _ (rvA_size HT3.out HTM.out S9 ps' cs' v pb cb pa ca))) rfl ?_
     exact HEX.out 4 _ (fun h => by cases h) (fun _ => ⟨rfl, HNO.out⟩) (box_off HRVX.out HZW.out) (below_setRow HLW.out (by omega) _)
    have d1 : decide ((X.length : Int) < 9) = false := decide_eq_false (by omega)
    have d1' : decide (X.length < 9) = false := decide_eq_false h9
    have HX9 : Hid (¬ X.length < 9) := h9
    have HVL := Lib.hid (value22_any X (by omega) q kc wr HBX.out)
    have hnl := n8_lt X
    obtain ⟨NN, hNN⟩ : ∃ NN, Rdr.beN (X.take 8) = NN := ⟨_, rfl⟩
    rw [hNN] at HVL hnl
    have HNN := Lib.hid hNN
    clear h9 hNN
    go_upto_region 20 with fail
    go_wp2_with fail
    refine HVL.out.mono ?_
    rintro e w' ⟨rfl, rfl⟩
    clear HVL d1 d1'
    obtain ⟨hc14, -, -, -⟩ := rv_cells HT3.out HTM.out HRW.out
    by_cases hle : NN ≤ v.last
    ·have d3 : decide ((NN : Int) ≤ (v.last : Int)) = true := decide_eq_true (by omega)
     have d3' : decide (NN ≤ v.last) = true := decide_eq_true hle
     have hst : stepV v X = some v := by unfold stepV; rw [if_neg HX9.out, HNN.out, if_pos hle]
     have HNX := Lib.hid (HSK.out hst)
     clear hle hst
     go_wp2_with fail
     go_roundw
     case rel => exact ⟨i + 1, v, pb, cb, pa, ca, HIX.out, by go_num, HNX.out⟩
     case measure => have := HIX.out; simp [intOf]; omega
    have d3 : decide ((NN : Int) ≤ (v.last : Int)) = false := decide_eq_false (by omega)
    have d3' : decide (NN ≤ v.last) = false := decide_eq_false hle
    have hw1 : IntKind.u64.wrap ((v.last : Int) + 1) = (v.last : Int) + 1 := by rw [IntKind.wrap_u64]; omega
    by_cases heq : NN = v.last + 1
    rotate_left
    ·have q1 : ((NN : Int) == (v.last : Int) + 1) = false := beq_eq_false_iff_ne.2 (by omega)
     have q2 : ((NN : Int) != (v.last : Int) + 1) = true := bne_iff_ne.2 (by omega)
     have hst : stepV v X = none := by unfold stepV; rw [if_neg HX9.out, HNN.out, if_neg hle, if_neg heq]
     have HNO := Lib.hid (HBA.out hst)
     clear hle heq hst
     skip
     go_wp2_with (first
      | refine wpList_load_row rfl 76 _ rfl g6 rfl 76 (rvA T' D9 S9 ps' cs' v pb cb pa ca) (0, 0) _ HRW.out Tryz.underlying76 rfl (infoRV _ (rvA_size HT3.out HTM.out S9 ps' cs' v pb cb pa ca)) ?_
      | refine wpList_store_row rfl 76 _ _ rfl (w.heap.size + 1) (rvA T' D9 S9 ps' cs' v pb cb pa ca) rfl rfl 76 zRV HZW.out (infoRV _ (rvA_size HT3.out HTM.out S9 ps' cs' v pb cb pa ca)) (by rw [rvA_size HT3.out HTM.out S9 ps' cs' v pb cb pa ca]; rfl) (rvA_one HT3.out HTM.out S9 ps' cs' v pb cb pa ca) ?_)
     have HS := Lib.hid (setRow_heap _ _ _ (rvA T' D9 S9 ps' cs' v pb cb pa ca) _ _ HZW.out)
     refine bodyPost_ret (results_cell_tmp2 rfl _ _ _ _ _ _ _ rfl HS.out Tryz.underlying76 rfl (infoRV _ (rvA_size HT3.out HTM.out S9 ps' cs' v pb cb pa ca))) rfl ?_
     exact HEX.out 4 _ (fun h => by cases h) (fun _ => ⟨rfl, HNO.out⟩) (box_off HRVX.out HZW.out) (below_setRow HLW.out (by omega) _)
    have q1 : ((NN : Int) == (v.last : Int) + 1) = true := beq_iff_eq.2 (by omega)
    have q2 : ((NN : Int) != (v.last : Int) + 1) = false := by rw [bne_eq_false_iff_eq]; omega
    obtain ⟨RB, hRB⟩ : ∃ RB, X.drop 8 = RB := ⟨_, rfl⟩
    have hst : stepV v X = some ⟨NN, v.some, v.body, v.after ++ [RB]⟩ := by unfold stepV; rw [if_neg HX9.out, HNN.out, if_neg hle, if_pos heq, hRB]
    have HNX := Lib.hid (HTK.out _ hst)
    have HDR : Hid (RBs wr (Cut.cutQ q kc 8) RB.length (kc - 8) RB) := by
     have h1 := (RBs.own HOX.out).drop 8 (by have := HX9.out; omega)
     rw [hRB] at h1
     have h2 : RB.length = X.length - 8 := by rw [← hRB, List.length_drop]
     rw [h2]; exact h1
    have HDL : Hid (X.length - 8 = RB.length) := by show _ = _; rw [← hRB, List.length_drop]
    have HNL9 : Hid (NN < 18446744073709551616) := hnl
    clear hle heq hst hRB
    have hfz := frozen_of_row _ _ 14 _ _ HRW.out
    obtain ⟨r1, r2, r3⟩ := rv_cell (v' := ⟨NN, v.some, v.body, v.after⟩) (pb' := pb) (cb' := cb) (pa' := pa) (ca' := ca) 14 0 (.int .u64 (NN : Int)) rfl HRW.out HRVX.out.rd HRVX.out.sb rfl HRVX.out.vb HRVX.out.af
    have HR3 := Lib.hid r1
    have HV3 := Lib.hid r2
    have HT9 := Lib.hid r3
    have hrun := Cut.cutR HBX.out 8 8 rfl (by have := HX9.out; omega)
    have HCL := Lib.hid hcl
    have HOB := Lib.hid (HRL.out.own)
    have HBL : Hid (b < wB.heap.size) := by
     obtain ⟨_, z1, _⟩ := HLS.out.all
     exact (z1.lt b rfl).2
    go_upto_region 25 with fail
    clear r1 r2 r3 hc14 hfz d3 d3' q1 q2 hw1
    have HCL3 : Hid ((wr.setCell ⟨g6, 14, none⟩ (.int .u64 (NN : Int))).cell? ⟨b, o + i, none⟩ = some (.slice q X.length kc)) := HT9.out.cell HCL.out (fun e => by
     obtain ⟨_, z1, _⟩ := HLS.out.all
     have e : b = g6 := e
     exact absurd (own_type z1 b _ _ _ rfl (by rw [e]; exact HRL0R.out)) (by decide))
    generalize wr.setCell ⟨g6, 14, none⟩ (.int .u64 (NN : Int)) = w3 at *
    clear hcl
    have HNO : Hid (∀ k, (Value.slice pa v.after.length ca).ownBlock = some k → ¬ k = g6) := fun k hk e => by
     have h1 := (HV3.out.af.ty hk).2
     subst e
     exact absurd (h1 _ _ _ HR3.out) (by decide)
    obtain ⟨-, -, -, hc17⟩ := rv_cells HT3.out HTM.out HR3.out
    have HK1 : Hid (∀ w', Turns (fun k => (Value.slice pa v.after.length ca).ownBlock = some k) w3 w' → w'.cell? ⟨g6, 17, none⟩ = some (.slice pa v.after.length ca)) := fun w' ht => ht.cell hc17 (fun hi => HNO.out _ hi rfl)
    have HK2 : Hid (∀ w', Turns (fun k => (Value.slice pa v.after.length ca).ownBlock = some k) w3 w' → w'.cell? ⟨b, o + i, none⟩ = some (.slice q X.length kc)) := fun w' ht => ht.cell HCL3.out (fun hi => by have h1 := HOB.out _ hi; have h2 := HBL.out; have h3 : wB.heap.size ≤ b := h1; omega)
    clear hc17
    refine wp_region_eager_t (Turns (fun k => (Value.slice pa v.after.length ca).ownBlock = some k) w3) [0, 1, 2, 3, 4, 5, 6, 9] [(0, true), (1, true), (2, true), (3, true), (4, true), (5, true), (6, true), (7, false), (8, false), (9, true)] [10] (by kernel_rfl) (by kernel_rfl) ?_ (eagerTOpen rfl ?_)
    ·exact (Turns.refl _ _).drew
    have hy0 : Turns (fun k => (Value.slice pa v.after.length ca).ownBlock = some k) w3 w3.drew := (Turns.refl _ _).drew
    repeat (first
     | ((first | (apply wpEagerT_take; (· rfl); (· (intro w' hb'; go_simp; try with_reducible rfl))) | refine wpEagerT_skip (by rfl) ?_); (try simp only [Act.put, zA, zB, zC]); (try refine eagerTOpen rfl ?_))
     | (apply wpEagerT_take; (· rfl); (· (intro w' hb'; have hk' := (HK1.out) w' hb'; go_split_ands; go_simp; try with_reducible rfl)); (try simp only [Act.put, zA, zB, zC]); (try refine eagerTOpen rfl ?_))
     | (apply wpEagerT_take; (· rfl); (· (intro w' hb'; have hk' := (HK2.out) w' hb'; go_split_ands; go_simp; try with_reducible rfl)); (try simp only [Act.put, zA, zB, zC]); (try refine eagerTOpen rfl ?_)))
    refine wpEagerT_op (by rfl) (fun K hK => oper_of_list rfl ?_)
    refine wpList_buildSl rfl _ rfl (Cut.cutQ q kc 8) (X.length - 8) (kc - 8) rfl ?_
    rw [HDL.out]
    have hal7 := Below.allocs w3.drew (.cells #[.slice (Cut.cutQ q kc 8) RB.length (kc - 8)] 22)
    have hy2 : Turns (fun k => (Value.slice pa v.after.length ca).ownBlock = some k) w3 (w3.drew.alloc (.cells #[.slice (Cut.cutQ q kc 8) RB.length (kc - 8)] 22)) := hy0.alloc _
    have HBA2 : Hid (Below w3.heap.size w3 (w3.drew.alloc (.cells #[.slice (Cut.cutQ q kc 8) RB.length (kc - 8)] 22))) := (below_drew1 w3.heap.size w3).trans hal7
    have HX8 := Lib.hid (hdr_sl w3.drew (.slice (Cut.cutQ q kc 8) RB.length (kc - 8)) 22 w3.drew.heap.size rfl)
    refine only_end (Shut.out hK _ _ hy2 ?_)
    clear hK K hal7
    (try simp only [Act.put, zA, zB, zC]); (try refine eagerTOpen rfl ?_)
    refine wpEagerT_op (by rfl) (fun K hK => oper_of_list rfl ?_)
    obtain ⟨hs8, g1, g2⟩ := HV3.out.af.all
    dsimp only at g1 g2
    have HO8 := Lib.hid (own_touch g1 (Turns.of_below (S := fun _ => False) HBA2.out) (fun _ _ h => h))
    have hal := HRL.out.len
    have hix := HIX.out
    refine wpList_append_nx rfl _ _ 31 rfl (base := 0) Tryz.underlying31 infoS rfl (by omega) rfl HO8.out rfl HX8.out (fun u hu => by rw [List.mem_singleton] at hu; subst hu; rfl) ⟨by omega, by omega⟩ (Nat.zero_le _) ?_
    intro p9 c9 w5 ho9 hgr hnx _
    have hy5 : Turns (fun k => (Value.slice pa v.after.length ca).ownBlock = some k) w3 w5 := hy2.trans (Turns.grown hgr (S := fun k => (Value.slice pa v.after.length ca).ownBlock = some k) (fun k hk => hk)) (fun _ _ h => h)
    refine only_end (Shut.out hK _ _ hy5 ?_)
    clear hK K
    (try simp only [Act.put, zA, zB, zC]); (try refine eagerTOpen rfl ?_)
    repeat ((first | (apply wpEagerT_take; (· rfl); (· (intro w' hb'; go_simp; try with_reducible rfl))) | refine wpEagerT_skip (by rfl) ?_); (try simp only [Act.put, zA, zB, zC]); (try refine eagerTOpen rfl ?_))
    refine eagerTEnd (tail1 rfl ?_)
    have hkr5 := HV3.out.af.kr hy5
    have hls5 : LsR w5 (.slice p9 (v.after.length + 1) c9) (v.after ++ [RB]) := LsR.push g1 g2 HBA2.out ((HDR.out.step (kr_turn (base := 0) HT9.out HRW.out (by decide) (by decide)))) ho9 hgr
    have hlen : (v.after ++ [RB]).length = v.after.length + 1 := by rw [List.length_append]; rfl
    have hr5 := hy5.keep HR3.out (fun hi => HNO.out _ hi rfl)
    have hc5 := HK1.out w5 hy5
    have hf5 := frozen_of_row _ _ 17 _ _ hr5
    obtain ⟨r1, r2, r3⟩ := rv_cell (v' := ⟨NN, v.some, v.body, v.after ++ [RB]⟩) (pb' := pb) (cb' := cb) (pa' := p9) (ca' := c9) 17 3 (.slice p9 (v.after.length + 1) c9) rfl hr5 (HV3.out.rd.step hkr5) (HV3.out.sb.step hkr5) (by rw [hlen]; rfl) (HV3.out.vb.step hkr5) (by rw [hlen]; exact hls5)
    have HRLN : Hid (RL g6 T' D9 S9 ps' cs' v0 ⟨NN, v.some, v.body, v.after ++ [RB]⟩ pb cb p9 c9 L0 wB (i + 1) (w5.setCell ⟨g6, 17, none⟩ (.slice p9 (v.after.length + 1) c9))) :=
     ⟨r1, r2, HNX.out, ((HRL.out.tb.trans HT9.out (fun _ _ hS => hS)).trans hy5 (fun k hk hS => by have := HOB.out k hS; omega)).trans r3 (fun _ _ hS => hS), fun k hk => by
      rw [hlen] at hk
      rcases hnx k hk with h | h
      ·exact HOB.out k h
      ·rw [h]
       have h1 := HRL.out.tb.size
       have h2 := HT9.out.size
       have h3 := HBA2.out.size
       omega, by rw [hlen]; have := HRL.out.len; omega, HNL9.out⟩
    clear hy0 hy2 hy5 ho9 hgr hnx hkr5 hls5 hlen r1 r2 r3 g1 g2 hal hix
    clear HX8 HO8 HBA2
    go_wp2_with fail
    refine noPanic_end ?_
    go_wp2_with fail
    go_roundw
    case rel => exact ⟨i + 1, ⟨NN, v.some, v.body, v.after ++ [RB]⟩, pb, cb, p9, c9, HIX.out, by go_num, HRLN.out⟩
    case measure => have := HIX.out; simp [intOf]; omega
   ·have hd1 : decide ((i : Int) < (L0.length : Int)) = false := decide_eq_false (by omega)
    have hd2 : decide (i < L0.length) = false := decide_eq_false hlt
    have hrn := HRL.out.run
    rw [List.take_of_length_le (by omega)] at hrn
    have HRN := Lib.hid hrn
    clear hrn hlt
    skip
    go_wp2_with (first
     | refine wpList_load_row rfl 76 _ rfl g6 rfl 76 (rvA T' D9 S9 ps' cs' v pb cb pa ca) (0, 0) _ HRW.out Tryz.underlying76 rfl (infoRV _ (rvA_size HT3.out HTM.out S9 ps' cs' v pb cb pa ca)) ?_
     | refine wpList_store_row rfl 76 _ _ rfl (w.heap.size + 1) (rvA T' D9 S9 ps' cs' v pb cb pa ca) rfl rfl 76 zRV HZW.out (infoRV _ (rvA_size HT3.out HTM.out S9 ps' cs' v pb cb pa ca)) (by rw [rvA_size HT3.out HTM.out S9 ps' cs' v pb cb pa ca]; rfl) (rvA_one HT3.out HTM.out S9 ps' cs' v pb cb pa ca) ?_)
    have HS := Lib.hid (setRow_heap _ _ _ (rvA T' D9 S9 ps' cs' v pb cb pa ca) _ _ HZW.out)
    refine bodyPost_ret (results_cell_tmp2 rfl _ _ _ _ _ _ _ rfl HS.out Tryz.underlying76 rfl (infoRV _ (rvA_size HT3.out HTM.out S9 ps' cs' v pb cb pa ca))) rfl ?_
    exact HEX.out 0 _ (fun _ => HRN.out) (fun h => absurd rfl h) (box_off HRVX.out HZW.out) (below_setRow HLW.out (by omega) _)
 have hd : decide ((0 : Int) < (S9.turn : Int)) = true := decide_eq_true (by omega)
 have hd' : decide (0 < S9.turn) = true := decide_eq_true (by omega)
 have HT0 : Hid (¬ S9.turn = 0) := ht
 clear ht
 by_cases h8 : S9.body.length < 8
 ·have d8 : decide ((S9.body.length : Int) < 8) = true := decide_eq_true (by omega)
  have d8' : decide (S9.body.length < 8) = true := decide_eq_true h8
  have HVN : Hid (vopF d = none) := vopF_no (by rw [HS9.out]; unfold startV; rw [if_neg HT0.out, if_pos h8])
  have HEE : Hid (ropE d = 4) := by show _ = _; unfold ropE; rw [if_pos HOE.out, HVN.out]; rfl
  clear h8
  skip
  go_wp2_with (first
   | refine wpList_load_row rfl 76 _ rfl g6 rfl 76 (rvA T' D9 S9 ps' cs' VS.zero none 0 none 0) (0, 0) _ HRW.out Tryz.underlying76 rfl (infoRV _ (rvA_size HT3.out HTM.out S9 ps' cs' VS.zero none 0 none 0)) ?_
   | refine wpList_store_row rfl 76 _ _ rfl (w.heap.size + 1) (rvA T' D9 S9 ps' cs' VS.zero none 0 none 0) rfl rfl 76 zRV HZW.out (infoRV _ (rvA_size HT3.out HTM.out S9 ps' cs' VS.zero none 0 none 0)) (by rw [rvA_size HT3.out HTM.out S9 ps' cs' VS.zero none 0 none 0]; rfl) (rvA_one HT3.out HTM.out S9 ps' cs' VS.zero none 0 none 0) ?_)
  have HS := Lib.hid (setRow_heap _ _ _ (rvA T' D9 S9 ps' cs' VS.zero none 0 none 0) _ _ HZW.out)
  refine bodyPost_ret (results_cell_tmp2 rfl _ _ _ _ _ _ _ rfl HS.out Tryz.underlying76 rfl (infoRV _ (rvA_size HT3.out HTM.out S9 ps' cs' VS.zero none 0 none 0))) rfl ?_
  exact ⟨T', VS.zero, ps', cs', none, 0, none, 0, by rw [HD9.out, HS9.out, HEE.out]; rfl, by rw [HD9.out, HS9.out]; exact box_off HRVX.out HZW.out, below_setRow HLW.out (by omega) _, fun _ v' h => (by rw [HVN.out] at h; cases h), fun k hk => by cases hk⟩
 have d8 : decide ((S9.body.length : Int) < 8) = false := decide_eq_false (by omega)
 have d8' : decide (S9.body.length < 8) = false := decide_eq_false h8
 have HSTART0 : Hid (startV (opnS d 1 2) = some ⟨Rdr.beN (S9.body.take 8), true, S9.body.drop 8, []⟩) := by show _ = _; rw [HS9.out]; unfold startV; rw [if_neg HT0.out, if_neg h8]
 have HN8 : Hid (8 ≤ S9.body.length) := by show _ ≤ _; omega
 clear h8
 have hfz := frozen_of_row _ _ 15 _ _ HRW.out
 obtain ⟨-, hc15, -, -⟩ := rv_cells HT3.out HTM.out HRW.out
 obtain ⟨r1, r2, r3⟩ := rv_cell (v' := ⟨0, true, [], []⟩) (pb' := none) (cb' := 0) (pa' := none) (ca' := 0) 15 1 (.bool true) rfl HRW.out HRVX.out.rd HRVX.out.sb rfl HRVX.out.vb HRVX.out.af
 have HR5 := Lib.hid r1
 have HV5 := Lib.hid r2
 have HZ5 := Lib.hid (r3.keep HZW.out (by have := HG6L.out; omega))
 have HG15 := Lib.hid (r3.keep HG1.out (by have := HG6L.out; omega))
 have HG45 := Lib.hid (r3.keep HG4X.out (fun e => by
  have h1 := HG4X.out
  rw [e, HRW.out] at h1
  injection h1 with e1
  injection e1 with _ e2
  exact absurd e2 (by decide)))
 have HL5 := Lib.hid (HLW.out.trans (r3.below HLW.out.size (fun k hk => by have hk : k = g6 := hk; have := HG6L.out; omega)))
 go_upto_region 12 with fail
 clear r1 r2 r3 hc15 hfz hd hd' d8 d8' hc3 hc4 HRW HRVX HZW HG1 HG4X HLW
 generalize w4.setCell ⟨g6, 15, none⟩ (.bool true) = w5 at *
 obtain ⟨-, -, -, -, hc4⟩ := rs_cells HG45.out
 have HBX := Lib.hid HV5.out.sb.bs
 have HVL := Lib.hid (value22_any S9.body HN8.out ps' cs' w5 HBX.out)
 have hnl := n8_lt S9.body
 obtain ⟨NN, hNN⟩ : ∃ NN, Rdr.beN (S9.body.take 8) = NN := ⟨_, rfl⟩
 rw [hNN] at HVL hnl HSTART0
 have HNL9 : Hid (NN < 18446744073709551616) := hnl
 clear hNN hnl
 go_wp2_with fail
 refine HVL.out.mono ?_
 rintro e w' ⟨rfl, rfl⟩
 clear HVL
 have hfz := frozen_of_row _ _ 14 _ _ HR5.out
 obtain ⟨hc14, -, -, -⟩ := rv_cells HT3.out HTM.out HR5.out
 obtain ⟨r1, r2, r3⟩ := rv_cell (v' := ⟨NN, true, [], []⟩) (pb' := none) (cb' := 0) (pa' := none) (ca' := 0) 14 0 (.int .u64 (NN : Int)) rfl HR5.out HV5.out.rd HV5.out.sb rfl HV5.out.vb HV5.out.af
 have HR6 := Lib.hid r1
 have HV6 := Lib.hid r2
 have HZ6 := Lib.hid (r3.keep HZ5.out (by have := HG6L.out; omega))
 have HG16 := Lib.hid (r3.keep HG15.out (by have := HG6L.out; omega))
 have HG46 := Lib.hid (r3.keep HG45.out (fun e => by
  have h1 := HG45.out
  rw [e, HR5.out] at h1
  injection h1 with e1
  injection e1 with _ e2
  exact absurd e2 (by decide)))
 have HL6 := Lib.hid (HL5.out.trans (r3.below HL5.out.size (fun k hk => by have hk : k = g6 := hk; have := HG6L.out; omega)))
 go_upto_region 13 with fail
 clear r1 r2 r3 hc14 hfz hc4 HR5 HV5 HZ5 HG15 HG45 HL5
 generalize w5.setCell ⟨g6, 14, none⟩ (.int .u64 (NN : Int)) = w6 at *
 obtain ⟨-, -, -, -, hc4⟩ := rs_cells HG46.out
 have hrun := Cut.cutR HBX.out 8 8 rfl HN8.out
 obtain ⟨RB, hRB⟩ : ∃ RB, S9.body.drop 8 = RB := ⟨_, rfl⟩
 have hRL : S9.body.length - 8 = RB.length := by rw [← hRB, List.length_drop]
 have HDR : Hid (RBs w6 (Cut.cutQ ps' cs' 8) RB.length (cs' - 8) RB) := by
  have h1 := HV6.out.sb.drop 8 HN8.out
  rw [hRB, hRL] at h1
  exact h1
 rw [hRB] at HSTART0
 rw [hRL] at hrun
 clear hRB hRL
 have hfz := frozen_of_row _ _ 16 _ _ HR6.out
 obtain ⟨-, -, hc16, -⟩ := rv_cells HT3.out HTM.out HR6.out
 obtain ⟨r1, r2, r3⟩ := rv_cell (v' := ⟨NN, true, RB, []⟩) (pb' := Cut.cutQ ps' cs' 8) (cb' := cs' - 8) (pa' := none) (ca' := 0) 16 2 (.slice (Cut.cutQ ps' cs' 8) RB.length (cs' - 8)) rfl HR6.out HV6.out.rd HV6.out.sb rfl HDR.out HV6.out.af
 have HRW := Lib.hid r1
 have HRVX := Lib.hid r2
 have HZW := Lib.hid (r3.keep HZ6.out (by have := HG6L.out; omega))
 have HG1 := Lib.hid (r3.keep HG16.out (by have := HG6L.out; omega))
 have HLW := Lib.hid (HL6.out.trans (r3.below HL6.out.size (fun k hk => by have hk : k = g6 := hk; have := HG6L.out; omega)))
 go_upto_region 14 with fail
 clear r1 r2 r3 hc16 hfz hc4 hrun HR6 HV6 HZ6 HG16 HG46 HL6 HDR HBX
 generalize w6.setCell ⟨g6, 16, none⟩ (.slice (Cut.cutQ ps' cs' 8) RB.length (cs' - 8)) = w7 at *
 generalize Cut.cutQ ps' cs' 8 = pq at *
 generalize cs' - 8 = cq at *
 obtain ⟨v0, hv0⟩ : ∃ v0 : VS, v0 = ⟨NN, true, RB, []⟩ := ⟨_, rfl⟩
 have HAF : Hid (v0.after.length = 0) := by rw [hv0]; exact rfl
 have HLL : Hid (v0.last < 18446744073709551616) := by rw [hv0]; exact HNL9.out
 have HSTART : Hid (startV (opnS d 1 2) = some v0) := by rw [hv0]; exact HSTART0.out
 have HRW2 : Hid (w7.heap[g6]? = some (.cells (rvA T' D9 S9 ps' cs' v0 pq cq none 0) 76 (0, 0))) := by rw [hv0]; exact HRW.out
 have HRV2 : Hid (RVR w7 T' D9 S9 ps' cs' v0 pq cq none 0) := by rw [hv0]; exact HRVX.out
 clear HRW HRVX HSTART0 hv0
 have HRW := Lib.hid HRW2.out
 have HRVX := Lib.hid HRV2.out
 clear HRW2 HRV2
 skip
 have hbo := rbodies_any T' D9 0 (by omega) w7 HRVX.out.rd
 unfold RBodP at hbo
 have HNL : Hid (∀ l, L0 = l → l.length ≤ 1000000) := by
  show ∀ l, _ → _
  intro l hl
  have h1 := scan_count (fD D9 0).now
  have h2 := HNOW.out
  rw [HL0.out] at h1
  rw [← hl]
  omega
 rw [HL0.out] at hbo
 have HBO := Lib.hid hbo
 have HRUN : Hid (vopF d = runV v0 L0) := by show _ = _; rw [vopF_runs HSTART.out, HD9.out, HL0.out]
 have HLEN : Hid (L0.length ≤ 1000000) := HNL.out L0 rfl
 clear hbo HNL HL0
 go_wp2_with (refine wpList_load_row rfl 65 _ rfl w.heap.size rfl 65 (rdA T' D9) (0, 0) _ HG1.out Tryz.underlying65 rfl (infoRD _ (rdA_size HT3.out HTM.out)) ?_)
 refine HBO.out.mono ?_
 rintro e wB ⟨vl, rfl, hls, hbB⟩
 have HLS := Lib.hid hls
 have HZB := Lib.hid (Below.keepOld hbB HZW.out)
 have HLB := Lib.hid (HLW.out.trans (hbB.mono HLW.out.size))
 have HRL0 : Hid (RL g6 T' D9 S9 ps' cs' v0 v0 pq cq none 0 L0 wB 0 wB) := ⟨Below.keepOld hbB HRW.out, HRVX.out.below hbB, rfl, Turns.refl _ _, (fun k hh => by cases hh), by rw [HAF.out]; exact Nat.zero_le _, HLL.out⟩
 have HRL0R := Lib.hid HRL0.out.row
 have hpt := hls.ls.sl
 obtain ⟨pl, cl, rfl, hpts⟩ := hpt
 have hlen := HLEN.out
 have hlc := hpts.le
 have hlm := hpts.max
 clear hls hbB HBO HZW HLW HRW HRVX hpts
 go_upto_region 15 with fail
 go_wp2_with fail
 go_loopw [8, 9] (fun j _ wr => ∃ (i : Nat) (v : VS) (pb : Option Addr) (cb : Nat) (pa : Option Addr) (ca : Nat), i ≤ L0.length ∧ j = .int .i64 i ∧ RL g6 T' D9 S9 ps' cs' v0 v pb cb pa ca L0 wB i wr) (fun j _ _ => L0.length - (intOf j).toNat)
 case atStart => exact ⟨0, v0, pq, cq, none, 0, Nat.zero_le _, rfl, HRL0.out⟩
 case round =>
  clear HRL0
  obtain ⟨i, v, pb, cb, pa, ca, hi, rfl, hrl⟩ := hrel
  have HRL := Lib.hid hrl
  clear hrl
  have HRW := Lib.hid HRL.out.row
  have HRVX := Lib.hid HRL.out.rv
  have HZW := Lib.hid (HRL.out.tb.keep HZB.out (by have := HG6L.out; omega))
  have HLW := Lib.hid (HLB.out.trans (HRL.out.tb.below HLB.out.size (fun k hk => by have hk : k = g6 := hk; have := HG6L.out; omega)))
  have HEX : Hid (∀ (E : Int) (w9 : World), (E = 0 → runV v0 L0 = some v) → (E ≠ 0 → E = 4 ∧ runV v0 L0 = none) → RVR w9 T' D9 S9 ps' cs' v pb cb pa ca → Below w.heap.size w w9 → RVOpP d w (.returned (.tuple #[.agg (rvA T' D9 S9 ps' cs' v pb cb pa ca), .int .i64 E])) w9) := fun E w9 h1 h2 h3 h4 => by
   refine ⟨T', v, ps', cs', pb, cb, pa, ca, ?_, by rw [HD9.out, HS9.out]; exact h3, h4, fun _ v' hv => ?_, fun k hk => Nat.le_trans HLB.out.size (HRL.out.own k hk)⟩
   ·rw [HD9.out, HS9.out]
    have : ropE d = E := by
     unfold ropE
     rw [if_pos HOE.out, HRUN.out]
     by_cases hE : E = 0
     ·rw [h1 hE, hE]; rfl
     ·rw [(h2 hE).2, (h2 hE).1]; rfl
    rw [this]
   ·rw [HRUN.out] at hv
    by_cases hE : E = 0
    ·rw [h1 hE] at hv; cases hv; rfl
    ·rw [(h2 hE).2] at hv; cases hv
  by_cases hlt : i < L0.length
  ·have hd1 : decide ((i : Int) < (L0.length : Int)) = true := decide_eq_true (by omega)
   have hd2 : decide (i < L0.length) = true := decide_eq_true hlt
   have hlso := lsO_turn HLS.out HRL.out.tb (fun k M t fr hk hm => by
    have hk : k = g6 := hk
    subst hk
    have h1 := HRL.out.row
    have h2 := HRL0R.out
    rw [hm] at h2
    injection h2 with e1
    injection e1 with _ e2
    subst e2
    exact ⟨by decide, by decide⟩)
   obtain ⟨hs9, g1, g2⟩ := hlso.all
   obtain ⟨p', c', he', hsl⟩ := own_sl g1
   cases he'
   obtain ⟨q, kc, e1, e2⟩ := g2 i hlt
   obtain ⟨b, o, rfl⟩ := hsl.addr (by omega) (by omega)
   have hcl := hsl.cell _ rfl i _ e1
   rw [add_none] at hcl
   have HIX : Hid (i < L0.length) := hlt
   have HOX := Lib.hid e2
   have HSK := Lib.hid (fun hs => HRL.out.skip HIX.out hs)
   have HBA := Lib.hid (fun hs => HRL.out.bad HIX.out hs)
   have HTK : Hid (∀ v' : VS, stepV v L0[i] = some v' → runV v0 (L0.take (i + 1)) = some v') := fun v' hs => by rw [take_snoc L0 i HIX.out, runV_snoc, HRL.out.run]; exact hs
   generalize hX : L0[i]'hlt = X at hcl HOX HSK HBA HTK
   have HBX := Lib.hid (Cut.own_bs HOX.out)
   have hxc := HBX.out.le
   have hxm := HBX.out.max
   clear hlso g1 g2 hsl e1 e2 hX
   by_cases h9 : X.length < 9
   ·have d1 : decide ((X.length : Int) < 9) = true := decide_eq_true (by omega)
    have d1' : decide (X.length < 9) = true := decide_eq_true h9
    have hst : stepV v X = none := by unfold stepV; rw [if_pos h9]
    have HNO := Lib.hid (HBA.out hst)
    clear h9 hst
    skip
    go_wp2_with (first
     | refine wpList_load_row rfl 76 _ rfl g6 rfl 76 (rvA T' D9 S9 ps' cs' v pb cb pa ca) (0, 0) _ HRW.out Tryz.underlying76 rfl (infoRV _ (rvA_size HT3.out HTM.out S9 ps' cs' v pb cb pa ca)) ?_
     | refine wpList_store_row rfl 76 _ _ rfl (w.heap.size + 1) (rvA T' D9 S9 ps' cs' v pb cb pa ca) rfl rfl 76 zRV HZW.out (infoRV _ (rvA_size HT3.out HTM.out S9 ps' cs' v pb cb pa ca)) (by rw [rvA_size HT3.out HTM.out S9 ps' cs' v pb cb pa ca]; rfl) (rvA_one HT3.out HTM.out S9 ps' cs' v pb cb pa ca) ?_)
    have HS := Lib.hid (setRow_heap _ _ _ (rvA T' D9 S9 ps' cs' v pb cb pa ca) _ _ HZW.out)
    refine bodyPost_ret (results_cell_tmp2 rfl _ _ _ _ _ _ _ rfl HS.out Tryz.underlying76 rfl (infoRV _ (rvA_size HT3.out HTM.out S9 ps' cs' v pb cb pa ca))) rfl ?_
    exact HEX.out 4 _ (fun h => by cases h) (fun _ => ⟨rfl, HNO.out⟩) (box_off HRVX.out HZW.out) (below_setRow HLW.out (by omega) _)
   have d1 : decide ((X.length : Int) < 9) = false := decide_eq_false (by omega)
   have d1' : decide (X.length < 9) = false := decide_eq_false h9
   have HX9 : Hid (¬ X.length < 9) := h9
   have HVL := Lib.hid (value22_any X (by omega) q kc wr HBX.out)
   have hnl := n8_lt X
   obtain ⟨NN, hNN⟩ : ∃ NN, Rdr.beN (X.take 8) = NN := ⟨_, rfl⟩
   rw [hNN] at HVL hnl
   have HNN := Lib.hid hNN
   clear h9 hNN
   go_upto_region 20 with fail
   go_wp2_with fail
   refine HVL.out.mono ?_
   rintro e w' ⟨rfl, rfl⟩
   clear HVL d1 d1'
   obtain ⟨hc14, -, -, -⟩ := rv_cells HT3.out HTM.out HRW.out
   by_cases hle : NN ≤ v.last
   ·have d3 : decide ((NN : Int) ≤ (v.last : Int)) = true := decide_eq_true (by omega)
    have d3' : decide (NN ≤ v.last) = true := decide_eq_true hle
    have hst : stepV v X = some v := by unfold stepV; rw [if_neg HX9.out, HNN.out, if_pos hle]
    have HNX := Lib.hid (HSK.out hst)
    clear hle hst
    go_wp2_with fail
    go_roundw
    case rel => exact ⟨i + 1, v, pb, cb, pa, ca, HIX.out, by go_num, HNX.out⟩
    case measure => have := HIX.out; simp [intOf]; omega
   have d3 : decide ((NN : Int) ≤ (v.last : Int)) = false := decide_eq_false (by omega)
   have d3' : decide (NN ≤ v.last) = false := decide_eq_false hle
   have hw1 : IntKind.u64.wrap ((v.last : Int) + 1) = (v.last : Int) + 1 := by rw [IntKind.wrap_u64]; omega
   by_cases heq : NN = v.last + 1
   rotate_left
   ·have q1 : ((NN : Int) == (v.last : Int) + 1) = false := beq_eq_false_iff_ne.2 (by omega)
    have q2 : ((NN : Int) != (v.last : Int) + 1) = true := bne_iff_ne.2 (by omega)
    have hst : stepV v X = none := by unfold stepV; rw [if_neg HX9.out, HNN.out, if_neg hle, if_neg heq]
    have HNO := Lib.hid (HBA.out hst)
    clear hle heq hst
    skip
    go_wp2_with (first
     | refine wpList_load_row rfl 76 _ rfl g6 rfl 76 (rvA T' D9 S9 ps' cs' v pb cb pa ca) (0, 0) _ HRW.out Tryz.underlying76 rfl (infoRV _ (rvA_size HT3.out HTM.out S9 ps' cs' v pb cb pa ca)) ?_
     | refine wpList_store_row rfl 76 _ _ rfl (w.heap.size + 1) (rvA T' D9 S9 ps' cs' v pb cb pa ca) rfl rfl 76 zRV HZW.out (infoRV _ (rvA_size HT3.out HTM.out S9 ps' cs' v pb cb pa ca)) (by rw [rvA_size HT3.out HTM.out S9 ps' cs' v pb cb pa ca]; rfl) (rvA_one HT3.out HTM.out S9 ps' cs' v pb cb pa ca) ?_)
    have HS := Lib.hid (setRow_heap _ _ _ (rvA T' D9 S9 ps' cs' v pb cb pa ca) _ _ HZW.out)
    refine bodyPost_ret (results_cell_tmp2 rfl _ _ _ _ _ _ _ rfl HS.out Tryz.underlying76 rfl (infoRV _ (rvA_size HT3.out HTM.out S9 ps' cs' v pb cb pa ca))) rfl ?_
    exact HEX.out 4 _ (fun h => by cases h) (fun _ => ⟨rfl, HNO.out⟩) (box_off HRVX.out HZW.out) (below_setRow HLW.out (by omega) _)
   have q1 : ((NN : Int) == (v.last : Int) + 1) = true := beq_iff_eq.2 (by omega)
   have q2 : ((NN : Int) != (v.last : Int) + 1) = false := by rw [bne_eq_false_iff_eq]; omega
   obtain ⟨RB, hRB⟩ : ∃ RB, X.drop 8 = RB := ⟨_, rfl⟩
   have hst : stepV v X = some ⟨NN, v.some, v.body, v.after ++ [RB]⟩ := by unfold stepV; rw [if_neg HX9.out, HNN.out, if_neg hle, if_pos heq, hRB]
   have HNX := Lib.hid (HTK.out _ hst)
   have HDR : Hid (RBs wr (Cut.cutQ q kc 8) RB.length (kc - 8) RB) := by
    have h1 := (RBs.own HOX.out).drop 8 (by have := HX9.out; omega)
    rw [hRB] at h1
    have h2 : RB.length = X.length - 8 := by rw [← hRB, List.length_drop]
    rw [h2]; exact h1
   have HDL : Hid (X.length - 8 = RB.length) := by show _ = _; rw [← hRB, List.length_drop]
   have HNL9 : Hid (NN < 18446744073709551616) := hnl
   clear hle heq hst hRB
   have hfz := frozen_of_row _ _ 14 _ _ HRW.out
   obtain ⟨r1, r2, r3⟩ := rv_cell (v' := ⟨NN, v.some, v.body, v.after⟩) (pb' := pb) (cb' := cb) (pa' := pa) (ca' := ca) 14 0 (.int .u64 (NN : Int)) rfl HRW.out HRVX.out.rd HRVX.out.sb rfl HRVX.out.vb HRVX.out.af
   have HR3 := Lib.hid r1
   have HV3 := Lib.hid r2
   have HT9 := Lib.hid r3
   have hrun := Cut.cutR HBX.out 8 8 rfl (by have := HX9.out; omega)
   have HCL := Lib.hid hcl
   have HOB := Lib.hid (HRL.out.own)
   have HBL : Hid (b < wB.heap.size) := by
    obtain ⟨_, z1, _⟩ := HLS.out.all
    exact (z1.lt b rfl).2
   go_upto_region 25 with fail
   clear r1 r2 r3 hc14 hfz d3 d3' q1 q2 hw1
   have HCL3 : Hid ((wr.setCell ⟨g6, 14, none⟩ (.int .u64 (NN : Int))).cell? ⟨b, o + i, none⟩ = some (.slice q X.length kc)) := HT9.out.cell HCL.out (fun e => by
    obtain ⟨_, z1, _⟩ := HLS.out.all
    have e : b = g6 := e
    exact absurd (own_type z1 b _ _ _ rfl (by rw [e]; exact HRL0R.out)) (by decide))
   generalize wr.setCell ⟨g6, 14, none⟩ (.int .u64 (NN : Int)) = w3 at *
   clear hcl
   have HNO : Hid (∀ k, (Value.slice pa v.after.length ca).ownBlock = some k → ¬ k = g6) := fun k hk e => by
    have h1 := (HV3.out.af.ty hk).2
    subst e
    exact absurd (h1 _ _ _ HR3.out) (by decide)
   obtain ⟨-, -, -, hc17⟩ := rv_cells HT3.out HTM.out HR3.out
   have HK1 : Hid (∀ w', Turns (fun k => (Value.slice pa v.after.length ca).ownBlock = some k) w3 w' → w'.cell? ⟨g6, 17, none⟩ = some (.slice pa v.after.length ca)) := fun w' ht => ht.cell hc17 (fun hi => HNO.out _ hi rfl)
   have HK2 : Hid (∀ w', Turns (fun k => (Value.slice pa v.after.length ca).ownBlock = some k) w3 w' → w'.cell? ⟨b, o + i, none⟩ = some (.slice q X.length kc)) := fun w' ht => ht.cell HCL3.out (fun hi => by have h1 := HOB.out _ hi; have h2 := HBL.out; have h3 : wB.heap.size ≤ b := h1; omega)
   clear hc17
   refine wp_region_eager_t (Turns (fun k => (Value.slice pa v.after.length ca).ownBlock = some k) w3) [0, 1, 2, 3, 4, 5, 6, 9] [(0, true), (1, true), (2, true), (3, true), (4, true), (5, true), (6, true), (7, false), (8, false), (9, true)] [10] (by kernel_rfl) (by kernel_rfl) ?_ (eagerTOpen rfl ?_)
   ·exact (Turns.refl _ _).drew
   have hy0 : Turns (fun k => (Value.slice pa v.after.length ca).ownBlock = some k) w3 w3.drew := (Turns.refl _ _).drew
   repeat (first
    | ((first | (apply wpEagerT_take; (· rfl); (· (intro w' hb'; go_simp; try with_reducible rfl))) | refine wpEagerT_skip (by rfl) ?_); (try simp only [Act.put, zA, zB, zC]); (try refine eagerTOpen rfl ?_))
    | (apply wpEagerT_take; (· rfl); (· (intro w' hb'; have hk' := (HK1.out) w' hb'; go_split_ands; go_simp; try with_reducible rfl)); (try simp only [Act.put, zA, zB, zC]); (try refine eagerTOpen rfl ?_))
    | (apply wpEagerT_take; (· rfl); (· (intro w' hb'; have hk' := (HK2.out) w' hb'; go_split_ands; go_simp; try with_reducible rfl)); (try simp only [Act.put, zA, zB, zC]); (try refine eagerTOpen rfl ?_)))
   refine wpEagerT_op (by rfl) (fun K hK => oper_of_list rfl ?_)
   refine wpList_buildSl rfl _ rfl (Cut.cutQ q kc 8) (X.length - 8) (kc - 8) rfl ?_
   rw [HDL.out]
   have hal7 := Below.allocs w3.drew (.cells #[.slice (Cut.cutQ q kc 8) RB.length (kc - 8)] 22)
   have hy2 : Turns (fun k => (Value.slice pa v.after.length ca).ownBlock = some k) w3 (w3.drew.alloc (.cells #[.slice (Cut.cutQ q kc 8) RB.length (kc - 8)] 22)) := hy0.alloc _
   have HBA2 : Hid (Below w3.heap.size w3 (w3.drew.alloc (.cells #[.slice (Cut.cutQ q kc 8) RB.length (kc - 8)] 22))) := (below_drew1 w3.heap.size w3).trans hal7
   have HX8 := Lib.hid (hdr_sl w3.drew (.slice (Cut.cutQ q kc 8) RB.length (kc - 8)) 22 w3.drew.heap.size rfl)
   refine only_end (Shut.out hK _ _ hy2 ?_)
   clear hK K hal7
   (try simp only [Act.put, zA, zB, zC]); (try refine eagerTOpen rfl ?_)
   refine wpEagerT_op (by rfl) (fun K hK => oper_of_list rfl ?_)
   obtain ⟨hs8, g1, g2⟩ := HV3.out.af.all
   dsimp only at g1 g2
   have HO8 := Lib.hid (own_touch g1 (Turns.of_below (S := fun _ => False) HBA2.out) (fun _ _ h => h))
   have hal := HRL.out.len
   have hix := HIX.out
   refine wpList_append_nx rfl _ _ 31 rfl (base := 0) Tryz.underlying31 infoS rfl (by omega) rfl HO8.out rfl HX8.out (fun u hu => by rw [List.mem_singleton] at hu; subst hu; rfl) ⟨by omega, by omega⟩ (Nat.zero_le _) ?_
   intro p9 c9 w5 ho9 hgr hnx _
   have hy5 : Turns (fun k => (Value.slice pa v.after.length ca).ownBlock = some k) w3 w5 := hy2.trans (Turns.grown hgr (S := fun k => (Value.slice pa v.after.length ca).ownBlock = some k) (fun k hk => hk)) (fun _ _ h => h)
   refine only_end (Shut.out hK _ _ hy5 ?_)
   clear hK K
   (try simp only [Act.put, zA, zB, zC]); (try refine eagerTOpen rfl ?_)
   repeat ((first | (apply wpEagerT_take; (· rfl); (· (intro w' hb'; go_simp; try with_reducible rfl))) | refine wpEagerT_skip (by rfl) ?_); (try simp only [Act.put, zA, zB, zC]); (try refine eagerTOpen rfl ?_))
   refine eagerTEnd (tail1 rfl ?_)
   have hkr5 := HV3.out.af.kr hy5
   have hls5 : LsR w5 (.slice p9 (v.after.length + 1) c9) (v.after ++ [RB]) := LsR.push g1 g2 HBA2.out ((HDR.out.step (kr_turn (base := 0) HT9.out HRW.out (by decide) (by decide)))) ho9 hgr
   have hlen : (v.after ++ [RB]).length = v.after.length + 1 := by rw [List.length_append]; rfl
   have hr5 := hy5.keep HR3.out (fun hi => HNO.out _ hi rfl)
   have hc5 := HK1.out w5 hy5
   have hf5 := frozen_of_row _ _ 17 _ _ hr5
   obtain ⟨r1, r2, r3⟩ := rv_cell (v' := ⟨NN, v.some, v.body, v.after ++ [RB]⟩) (pb' := pb) (cb' := cb) (pa' := p9) (ca' := c9) 17 3 (.slice p9 (v.after.length + 1) c9) rfl hr5 (HV3.out.rd.step hkr5) (HV3.out.sb.step hkr5) (by rw [hlen]; rfl) (HV3.out.vb.step hkr5) (by rw [hlen]; exact hls5)
   have HRLN : Hid (RL g6 T' D9 S9 ps' cs' v0 ⟨NN, v.some, v.body, v.after ++ [RB]⟩ pb cb p9 c9 L0 wB (i + 1) (w5.setCell ⟨g6, 17, none⟩ (.slice p9 (v.after.length + 1) c9))) :=
    ⟨r1, r2, HNX.out, ((HRL.out.tb.trans HT9.out (fun _ _ hS => hS)).trans hy5 (fun k hk hS => by have := HOB.out k hS; omega)).trans r3 (fun _ _ hS => hS), fun k hk => by
     rw [hlen] at hk
     rcases hnx k hk with h | h
     ·exact HOB.out k h
     ·rw [h]
      have h1 := HRL.out.tb.size
      have h2 := HT9.out.size
      have h3 := HBA2.out.size
      omega, by rw [hlen]; have := HRL.out.len; omega, HNL9.out⟩
   clear hy0 hy2 hy5 ho9 hgr hnx hkr5 hls5 hlen r1 r2 r3 g1 g2 hal hix
   clear HX8 HO8 HBA2
   go_wp2_with fail
   refine noPanic_end ?_
   go_wp2_with fail
   go_roundw
   case rel => exact ⟨i + 1, ⟨NN, v.some, v.body, v.after ++ [RB]⟩, pb, cb, p9, c9, HIX.out, by go_num, HRLN.out⟩
   case measure => have := HIX.out; simp [intOf]; omega
  ·have hd1 : decide ((i : Int) < (L0.length : Int)) = false := decide_eq_false (by omega)
   have hd2 : decide (i < L0.length) = false := decide_eq_false hlt
   have hrn := HRL.out.run
   rw [List.take_of_length_le (by omega)] at hrn
   have HRN := Lib.hid hrn
   clear hrn hlt
   skip
   go_wp2_with (first
    | refine wpList_load_row rfl 76 _ rfl g6 rfl 76 (rvA T' D9 S9 ps' cs' v pb cb pa ca) (0, 0) _ HRW.out Tryz.underlying76 rfl (infoRV _ (rvA_size HT3.out HTM.out S9 ps' cs' v pb cb pa ca)) ?_
    | refine wpList_store_row rfl 76 _ _ rfl (w.heap.size + 1) (rvA T' D9 S9 ps' cs' v pb cb pa ca) rfl rfl 76 zRV HZW.out (infoRV _ (rvA_size HT3.out HTM.out S9 ps' cs' v pb cb pa ca)) (by rw [rvA_size HT3.out HTM.out S9 ps' cs' v pb cb pa ca]; rfl) (rvA_one HT3.out HTM.out S9 ps' cs' v pb cb pa ca) ?_)
   have HS := Lib.hid (setRow_heap _ _ _ (rvA T' D9 S9 ps' cs' v pb cb pa ca) _ _ HZW.out)
   refine bodyPost_ret (results_cell_tmp2 rfl _ _ _ _ _ _ _ rfl HS.out Tryz.underlying76 rfl (infoRV _ (rvA_size HT3.out HTM.out S9 ps' cs' v pb cb pa ca))) rfl ?_
   exact HEX.out 0 _ (fun _ => HRN.out) (fun h => absurd rfl h) (box_off HRVX.out HZW.out) (below_setRow HLW.out (by omega) _)
end Go.Proofs.YtnejjfglkindjaaGreatDoor.Vlt
