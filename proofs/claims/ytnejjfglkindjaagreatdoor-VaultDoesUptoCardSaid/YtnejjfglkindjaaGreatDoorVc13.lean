/- PARTS, JOINED: LAYER 22: the statement's own words: alive. Conditions: the laid cell of errors.errorType. THE LAW OF VAULTS: like: a vault, and its disk, stand as the document's. Conditions: none. PLAIN PART OF THE VAULT LAWS: records put, snapshots taken and rolls opened while a fuse burns, and what a crash leaves. Conditions: none. PLAIN PART OF THE VAULT LAWS: how disk, slots and vault stand together, and what a crash leaves of them. Conditions: at most 1100 bytes and calls. PLAIN PART OF THE VAULT LAWS: a snapshot taken, and what a crash leaves. Conditions: at most 1100 bytes and calls. PLAIN PART OF THE VAULT LAWS: room stays; without a fuse no disk goes down; the count of steps. Conditions: none. PLAIN PART OF THE LAW OF VAULTS: disk, slots and vault stand together through all calls. Conditions: at most 1100 bytes and calls. THE LAW OF VAULTS: a Case that came in; what stands at the loop's head. Conditions: none. THE LAW VaultDoes. Conditions: the laid cell of errors.errorType; a bulk that fits. -/
import Derived.Test.YtnejjfglkindjaaGreatDoorVc1
import Derived.Test.YtnejjfglkindjaaGreatDoorVc2
import Derived.Test.YtnejjfglkindjaaGreatDoorVc3
import Derived.Test.YtnejjfglkindjaaGreatDoorVc4
import Derived.Test.YtnejjfglkindjaaGreatDoorVc5
import Derived.Test.YtnejjfglkindjaaGreatDoorVc6
import Derived.Test.YtnejjfglkindjaaGreatDoorVc7
import Derived.Test.YtnejjfglkindjaaGreatDoorVc8
import Derived.Test.YtnejjfglkindjaaGreatDoorVc9
import Derived.Test.YtnejjfglkindjaaGreatDoorVc10
import Derived.Test.YtnejjfglkindjaaGreatDoorVc11
import Derived.Test.YtnejjfglkindjaaGreatDoorVc12
namespace Go.Proofs.YtnejjfglkindjaaGreatDoor.Vlt
open Go.RowKit Go.Mir Go.Mir.Parts Dk Rol Wr Slt Cut
open Frm (frame scan)
theorem XV.below {base rb sb db vb : Nat} {d : DD} {s : SS} {v : VS} {w w' : World} (h : XV base rb sb db vb d s v w) (hb : Below w.heap.size w w') : XV base rb sb db vb d s v w' := by
 obtain ⟨pb, cb, pa, ca, h⟩ := h
 exact ⟨pb, cb, pa, ca, h.below hb⟩
def aD0 : DD := opnD (DD.new 300) 0
def aD1 : DD := vputD aD0 VS.zero [7]
def aV1 : VS := vputV aD0 VS.zero [7]
def aD2 : DD := vcD aD1 ⟨-1, 0, []⟩ aV1 [5]
def aS2 : SS := vcS aD1 ⟨-1, 0, []⟩ aV1 [5]
def aV2 : VS := vcV aD1 ⟨-1, 0, []⟩ aV1 [5]
theorem aE0 : opnE (DD.new 300) 0 = 0 := by decide +kernel
theorem aF0 : vopF (DD.new 300) = some VS.zero := by kernel_rfl
theorem aE1 : vputE aD0 VS.zero [7] = 0 := by decide +kernel
theorem aE2 : vcE aD1 ⟨-1, 0, []⟩ aV1 [5] = 0 := by decide +kernel
theorem aE3 : vputE aD2 aV2 [8] = 0 := by decide +kernel
theorem aV3 : vputV aD2 aV2 [8] = ⟨2, true, [5], [[8]]⟩ := by kernel_rfl
theorem few_all {d : DD} {N : Nat} (h : d.fs.all (fun f => decide (f.steps.length ≤ N)) = true) : ∀ j, (fD d j).steps.length ≤ N := fun j => by
 unfold fD
 cases hj : d.fs[j]? with
 | none => exact Nat.zero_le _
 | some f => exact of_decide_eq_true (List.all_eq_true.1 h f (List.mem_of_getElem? hj))
theorem aW0 : ∀ j, (fD aD0 j).steps.length ≤ 9 := few_all (by decide +kernel)
theorem aW1 : ∀ j, (fD aD1 j).steps.length ≤ 9 := few_all (by decide +kernel)
theorem aW2 : ∀ j, (fD aD2 j).steps.length ≤ 9 := few_all (by decide +kernel)
theorem aL2 : aV2.after.length = 0 := by decide +kernel
set_option maxRecDepth 100000 in
set_option maxHeartbeats 3200000 in
theorem alive22_any (w : World) (hE : Rdr.EType w) :
  Calls Tryz.prog 14 #[] w fun e w' => e = .returned (.bool true) ∧ Below w.heap.size w w' := by
 have HE := Lib.hid hE
 have HN : Hid (Calls Tryz.prog 16 #[.int .i64 300] w fun e w' => ∃ db, e = .returned (.tuple #[.pointer (some ⟨db, 0, none⟩), .int .i64 0]) ∧ DX w.heap.size db (DD.new 300) w' ∧ Below w.heap.size w w') := snew 300 w (by omega)
 clear hE
 go_enter Tryz.func14, Tryz.ntmps14
 go_wp2_with fail
 refine HN.out.mono ?_
 rintro e w1 ⟨db, rfl, hd1, hb1⟩
 have HB1 := Lib.hid hb1
 have HO := Lib.hid (vopen_any w1 (HE.out.below hb1 HE.out.lt) HE.out.lt hd1 rfl (by have := few_new 300 0; omega) (fun _ h => by rw [aF0] at h; cases h))
 clear hd1 hb1 HN
 go_wp2_with fail
 refine HO.out.mono ?_
 rintro e w2 ⟨hk2, hs2⟩
 rcases hs2 with ⟨hc, _⟩ | ⟨_, v, rb, sb, vb, hv, rfl, hs2⟩
 ·exact absurd aE0 hc
 rw [aF0] at hv
 obtain rfl := Option.some.inj hv
 rw [opn_new 300 1 2 (by omega) (by omega)] at hs2
 have hs2 : XV w.heap.size rb sb db vb aD0 ⟨-1, 0, []⟩ VS.zero w2 := hs2
 have HB2 := Lib.hid (HB1.out.trans ((hk2.below HB1.out.size).mono (Nat.le_refl _)))
 clear hv hk2 HO
 have hal : Below w2.heap.size w2 (w2.alloc (.cells #[.int .u8 7] 5)) := Below.allocs _ _
 have hrow := heap_alloc_last w2 (.cells #[.int .u8 7] 5)
 have HA3 := Lib.hid (HB2.out.trans (hal.mono HB2.out.size))
 have hp := vput_any _ (hs2.below hal) (some ⟨w2.heap.size, 0, none⟩) 1 [7] (fun w' hk => bs_row (hk.row hrow (by decide) (by decide)) rfl (by decide)) (by decide) (Nat.zero_le _) (by have := aW0 0; omega)
 unfold VPutP at hp
 rw [aE1] at hp
 have HP1 := Lib.hid hp
 clear hal hrow hs2 hp
 go_wp2_with fail
 refine HP1.out.mono ?_
 rintro e w4 ⟨rfl, hs4, hk4⟩
 have hs4 : XV w.heap.size rb sb db vb aD1 ⟨-1, 0, []⟩ aV1 w4 := hs4
 have HB4 := Lib.hid (HA3.out.trans ((hk4.below HA3.out.size).mono (Nat.le_refl _)))
 have hal : Below w4.heap.size w4 (w4.alloc (.cells #[.int .u8 5] 5)) := Below.allocs _ _
 have hrow := heap_alloc_last w4 (.cells #[.int .u8 5] 5)
 have HA5 := Lib.hid (HB4.out.trans (hal.mono HB4.out.size))
 have hp := vcomp_any (N := 9) _ (hs4.below hal) (some ⟨w4.heap.size, 0, none⟩) 1 [5] (fun w' hk => bs_row (hk.row hrow (by decide) (by decide) (by decide)) rfl (by decide)) (by decide) (by omega) aW1
 unfold VCompP at hp
 rw [aE2] at hp
 have HP2 := Lib.hid hp
 clear hal hrow hs4 hk4 hp HP1
 go_wp2_with fail
 refine HP2.out.mono ?_
 rintro e w6 ⟨rfl, hs6, hk6⟩
 have hs6 : XV w.heap.size rb sb db vb aD2 aS2 aV2 w6 := hs6
 have HB6 := Lib.hid (HA5.out.trans ((hk6.below HA5.out.size).mono (Nat.le_refl _)))
 have hal : Below w6.heap.size w6 (w6.alloc (.cells #[.int .u8 8] 5)) := Below.allocs _ _
 have hrow := heap_alloc_last w6 (.cells #[.int .u8 8] 5)
 have HA7 := Lib.hid (HB6.out.trans (hal.mono HB6.out.size))
 have hp := vput_any _ (hs6.below hal) (some ⟨w6.heap.size, 0, none⟩) 1 [8] (fun w' hk => bs_row (hk.row hrow (by decide) (by decide)) rfl (by decide)) (by decide) (by rw [aL2]; exact Nat.zero_le _) (by have := aW2 0; omega)
 unfold VPutP at hp
 rw [aE3, aV3] at hp
 have HP3 := Lib.hid hp
 clear hal hrow hs6 hk6 hp HP2
 go_wp2_with fail
 refine HP3.out.mono ?_
 rintro e w8 ⟨rfl, hs8, hk8⟩
 have HB8 := Lib.hid (HA7.out.trans ((hk8.below HA7.out.size).mono (Nat.le_refl _)))
 have HS8 := Lib.hid hs8
 have HG := Lib.hid (vsnap_any w8 hs8 (show (1 : Nat) ≤ _ by omega))
 clear hs8 hk8 HP3
 go_wp2_with fail
 refine HG.out.mono ?_
 rintro e w9 ⟨p9, c9, rfl, ho9, hb9⟩
 have HS9 := Lib.hid (HS8.out.below hb9)
 have HB9 := Lib.hid (HB8.out.trans (hb9.mono HB8.out.size))
 have HR := Lib.hid (vrecs_any w9 HS9.out (show (1 : Nat) ≤ _ by omega) (fun x hx => by rw [List.mem_singleton] at hx; subst hx; exact (by decide)))
 have HO9 : Hid (w9.ownsRow w8.heap.size 5 1 (.slice p9 1 c9) 1 (bytesV [5])) := ho9
 clear hb9 ho9 HG HS8
 go_wp2_with fail
 refine HR.out.mono ?_
 rintro e w10 ⟨pa, ca, rfl, hl, hb10⟩
 have HS10 := Lib.hid (HS9.out.below hb10)
 have HB10 := Lib.hid (HB9.out.trans (hb10.mono HB9.out.size))
 have HC5 : (convert 22 9 (.slice p9 1 c9)).run Tryz.prog w10 = .ok (.string (S [5])) w10 := Cut.bconv (n := 1) ((Cut.own_bs HO9.out).below hb10)
 obtain ⟨hs, g1, g2⟩ := hl.all
 obtain ⟨p1, c1, he, hsl⟩ := own_sl g1
 cases he
 obtain ⟨bb, oo, rfl⟩ := hsl.addr (by decide) (by decide)
 obtain ⟨q, k, e0, ho0⟩ := g2 0 (by decide)
 have hc0 : w10.cell? ⟨bb, oo, none⟩ = some (.slice q 1 k) := hsl.at e0
 have HC8 : (convert 22 9 (.slice q 1 k)).run Tryz.prog w10 = .ok (.string (S [8])) w10 := Cut.bconv (n := 1) (Cut.own_bs ho0)
 have HNX : Hid (Calls Tryz.prog 11 #[.pointer (some ⟨vb, 0, none⟩)] w10 fun e w' => e = .returned (.int .u64 3) ∧ w10 = w') := vnext_any w10 HS10.out (show (2 : Nat) + 1 < _ by omega)
 have hle : (1 : Nat) ≤ ca := hsl.le
 clear hl g1 g2 hsl e0 ho0 hb10 HR HS9 HO9 HS10
 go_wp2_with fail
 refine HNX.out.mono ?_
 rintro e w' ⟨rfl, rfl⟩
 go_wp2_with fail
 go_ret
 exact ⟨rfl, HB10.out⟩
end Go.Proofs.YtnejjfglkindjaaGreatDoor.Vlt
namespace Go.Proofs.YtnejjfglkindjaaGreatDoor.Vlt
open Go.RowKit Go.Mir Go.Mir.Parts Dk Rol Wr Slt Cut Rk
open Frm (frame scan)
theorem XV.dxV {base rb sb db vb : Nat} {d : DD} {s : SS} {v : VS} {w : World} (h : XV base rb sb db vb d s v w) : DX base db d w := by
 obtain ⟨pb, cb, pa, ca, h⟩ := h
 exact h.sx.dx
theorem xkeptV {base db : Nat} {d : DD} (w : World) (h : DX base db d w) (i : Nat) (hi : i < 3) :
  Calls Tryz.prog 56 #[.pointer (some ⟨db, 0, none⟩), .int .i64 (i : Int)] w fun e w' => ∃ p c, e = .returned (.slice p (fD d i).kept.length c) ∧ Bs w' p (fD d i).kept.length c (fD d i).kept ∧ Below w.heap.size w w' := by
 obtain ⟨h0, vs, h1⟩ := h
 have := kept_in w h1 i (fD_lt h1 hi)
 rw [fD_eq (fD_lt h1 hi)] at this
 refine this.mono ?_
 rintro e w' ⟨p, c, he, hr, hb⟩
 obtain ⟨p', c', e1, hs⟩ := hr.bs
 cases e1
 exact ⟨p, c, he, hs, hb⟩
theorem vnextw_any {base rb sb db vb : Nat} {d : DD} {s : SS} {v : VS} (w : World) (h : XV base rb sb db vb d s v w) :
  Calls Tryz.prog 11 #[.pointer (some ⟨vb, 0, none⟩)] w fun e w' => e = .returned (.int .u64 (IntKind.u64.wrap ((v.last : Int) + 1))) ∧ w = w' := by
 have HN := Lib.hid (vnone_any w h)
 obtain ⟨pb, cb, pa, ca, h⟩ := h
 obtain ⟨-, -, hc2, -⟩ := vA_cells h.row
 clear h
 go_enter Tryz.func11, Tryz.ntmps11
 go_wp2_with fail
 refine HN.out.mono ?_
 rintro e w' ⟨rfl, rfl⟩
 go_wp2_with fail
 go_ret
 exact ⟨rfl, rfl⟩
theorem rv_rangeF {w : World} {g : Nat} {T : List RF} {d : DD} {s : SS} {ps : Option Addr} {cs : Nat} {v : VS} {pb : Option Addr} {cb : Nat} {pa : Option Addr} {ca : Nat} {t : TypeId} {fr : Nat × Nat} (h1 : T.length = 3) (h2 : d.fs.length = 3) (h : w.heap[g]? = some (.cells (rvA T d s ps cs v pb cb pa ca) t fr)) (i : Nat) {x : RF} {f : FD} (ht : T[i]? = some x) (hf : d.fs[i]? = some f) : w.rangeAt g (i * 2) (fA x f).toList := by
 obtain ⟨a, b⟩ := rdA_file h1 h2 i ht hf
 have hr := rv_range0 h
 intro j u hu
 have hv : (fL x f)[j]? = some u := hu
 match j, hv with
 | 0, hv =>
  cases hv
  have := hr (i * 2) _ (by rw [Array.getElem?_toList]; exact a)
  rwa [Nat.zero_add] at this
 | 1, hv =>
  cases hv
  have := hr (i * 2 + 1) _ (by rw [Array.getElem?_toList]; exact b)
  rwa [Nat.zero_add] at this
 | j + 2, hv => simp [fL] at hv
theorem rv_down {w : World} {g : Nat} {T : List RF} {d : DD} {s : SS} {ps : Option Addr} {cs : Nat} {v : VS} {pb : Option Addr} {cb : Nat} {pa : Option Addr} {ca : Nat} {t : TypeId} {fr : Nat × Nat} (h1 : T.length = 3) (h2 : d.fs.length = 3) (h : w.heap[g]? = some (.cells (rvA T d s ps cs v pb cb pa ca) t fr)) : w.cell? ⟨g, 8, none⟩ = some (.bool d.down) := by
 have := rv_range0 h 8 _ (by rw [Array.getElem?_toList]; exact (rdA_tail h1 h2).2.2)
 rwa [Nat.zero_add] at this
set_option maxRecDepth 100000 in
set_option maxHeartbeats 6400000 in
theorem like22_any {base rb sb db vb : Nat} {d : DD} {s : SS} {v : VS} {T : List RF} {ps : Option Addr} {cs : Nat} {pb : Option Addr} {cb : Nat} {pa : Option Addr} {ca : Nat} (w : World) (h : XV base rb sb db vb d s v w) (hr : RVR w T d s ps cs v pb cb pa ca) (hbl : v.body.length ≤ 1000000) (hal : v.after.length ≤ 100000) (hax : ∀ x ∈ v.after, x.length ≤ 1000000) :
  Calls Tryz.prog 28 #[.pointer (some ⟨db, 0, none⟩), .pointer (some ⟨vb, 0, none⟩), .agg (rvA T d s ps cs v pb cb pa ca)] w fun e w' => e = .returned (.bool true) ∧ Below w.heap.size w w' := by
 have hal0 := Below.allocs w (.cells (rvA T d s ps cs v pb cb pa ca) 76)
 have HB1 := Lib.hid hal0
 have HROW := Lib.hid (heap_alloc_last w (.cells (rvA T d s ps cs v pb cb pa ca) 76))
 have HXV := Lib.hid (h.below hal0)
 have HX := Lib.hid (h.below hal0).dxV
 have HRV := Lib.hid (hr.below hal0)
 have HN3 := Lib.hid hr.rd.n3
 have HM3 := Lib.hid hr.rd.m3
 have HBL := Lib.hid hbl
 have HAL := Lib.hid hal
 have HAX := Lib.hid hax
 clear h hr hbl hal hax hal0
 go_enter Tryz.func28, Tryz.ntmps28
 go_upto_region 1 with fail
 generalize w.alloc (.cells (rvA T d s ps cs v pb cb pa ca) 76) = w1 at *
 go_wp2_with fail
 go_loopw [7] (fun j wr => ∃ k : Nat, k ≤ 3 ∧ j = .int .i64 k ∧ Below w1.heap.size w1 wr) (fun j _ => 3 - (intOf j).toNat)
 case atStart => exact ⟨0, by omega, rfl, Below.refl _ _⟩
 case round =>
  obtain ⟨k, hk, rfl, hbw⟩ := hrel
  have HBW := Lib.hid hbw
  clear hbw
  by_cases hlt : k < 3
  ·have hd : decide ((k : Int) < (3 : Int)) = true := decide_eq_true (by omega)
   have hd2 : decide (k < 3) = true := decide_eq_true hlt
   have hk1 : (k : Int) < 3 := by omega
   have HXR := Lib.hid (HX.out.below HBW.out)
   have HRR := Lib.hid (HRV.out.rd.below HBW.out)
   have HRW := Lib.hid (Below.keepOld HBW.out HROW.out)
   have hti : k < T.length := by rw [HN3.out]; exact hlt
   have ht : T[k]? = some (T[k]'hti) := List.getElem?_eq_getElem hti
   generalize T[k]'hti = t at *
   have HT := Lib.hid ht
   have HF := Lib.hid (HRR.out.fd hlt)
   have HFA := Lib.hid (HRR.out.each k t _ HT.out HF.out).1.now
   have HNB : Hid ((fD d k).need ≤ 1000000) := by
    obtain ⟨t', f', _, a, _, _, b⟩ := HRR.out.at.file k hlt
    rw [HF.out] at a
    cases a; exact b
   have HLF : Hid (∀ w', Below wr.heap.size wr w' → w'.rangeAt w.heap.size (k * 2) (fA t (fD d k)).toList) := fun w' hb => rv_rangeF HN3.out HM3.out (Below.keepOld hb HRW.out) k HT.out HF.out
   have HKP : Hid (∀ w', Below wr.heap.size wr w' → w'.cell? ⟨w.heap.size, k * 2, none⟩ = some (.slice t.kp (fD d k).kept.length t.kc)) := fun w' hb => HLF.out w' hb 0 _ rfl
   have HC4 : Hid (∀ w', Below wr.heap.size wr w' → (convert 22 9 (.slice t.kp (fD d k).kept.length t.kc)).run Tryz.prog w' = .ok (.string (S (fD d k).kept)) w') := fun w' hb => bconv (HFA.out.kept.below hb)
   clear ht hti HRW
   go_upto_region 4 with fail
   refine wp_region_eager_x (Below wr.heap.size wr) [(0, true), (1, true), (4, true), (5, true), (6, true), (7, true), (8, true), (2, false), (3, true), (9, false), (10, true), (11, true), (12, true), (13, true), (14, true), (17, true), (18, true), (19, true), (20, true), (21, true), (22, true), (23, true), (15, false), (16, true), (24, true), (25, true)] (by kernel_rfl) (by kernel_rfl) ?_ (eagerXOpen rfl ?_)
   ·exact below_drew1 _ _
   have hy0 : Below wr.heap.size wr wr.drew := below_drew1 _ _
   repeat (first
    | ((with_reducible refine eagerXLoadAt 21 ?_); refine wpEagerX_load (by rfl) 62 _ rfl w.heap.size (k * 2) rfl (fA t (fD d k)) _ (fun w' hb => HLF.out w' hb) Tryz.underlying62 rfl (infoFi _ rfl) ?_; (try simp only [Act.put, zA, zB, zC]); (try refine eagerXOpen rfl ?_))
    | ((first | (apply wpEagerX_take; (· rfl); (· (intro w' hb'; go_simp; try with_reducible rfl))) | refine wpEagerX_skip (by rfl) ?_ | refine wpEager_off (by rfl) ?_); (try simp only [Act.put, zA, zB, zC]); (try refine eagerXOpen rfl ?_)))
   (refine wpEagerX_op (by rfl) (fun K hK => ?_); go_simp; (refine (xread wr.drew (HXR.out.below hy0) k hlt).mono ?_; rintro e y ⟨p1, c1, rfl, ho, hb⟩; have HO1 := Lib.hid ho; have HY1 := Lib.hid (hy0.trans hb); have hsub : ∀ x, Below y.heap.size y x → Below wr.heap.size wr x := fun x hx => HY1.out.trans (hx.mono HY1.out.size); have hy1 : Below y.heap.size y y := Below.refl _ _; clear hb ho); refine Shut.out hK _ _ _ hsub (by assumption) ?_; clear hK K hsub; (try simp only [Act.put, zA, zB, zC]); (try refine eagerXOpen rfl ?_))
   have HC1 : Hid (∀ w', Below y.heap.size y w' → (convert 22 9 (.slice p1 (fD d k).now.length c1)).run Tryz.prog w' = .ok (.string (S (fD d k).now)) w') := fun w' hb => bconv (HO1.out.below hb)
   repeat (first
    | (apply wpEagerX_take; (· rfl); (· (intro w' hb'; have hk' := (fun w' hb => HC1.out w' hb) w' hb'; go_split_ands; go_simp; try with_reducible rfl)); (try simp only [Act.put, zA, zB, zC]); (try refine eagerXOpen rfl ?_))
    | ((first | (apply wpEagerX_take; (· rfl); (· (intro w' hb'; go_simp; try with_reducible rfl))) | refine wpEagerX_skip (by rfl) ?_ | refine wpEager_off (by rfl) ?_); (try simp only [Act.put, zA, zB, zC]); (try refine eagerXOpen rfl ?_)))
   (refine wpEagerX_op (by rfl) (fun K hK => ?_); go_simp; (refine (rholds_any t (fD d k) y (HFA.out.below HY1.out) HNB.out).mono ?_; rintro e y2 ⟨p2, c2, rfl, ho, hb⟩; have HO2 := Lib.hid (own_bs ho); have HY2 := Lib.hid (HY1.out.trans (hb.mono HY1.out.size)); have hsub : ∀ x, Below y2.heap.size y2 x → Below y.heap.size y x := fun x hx => hb.trans (hx.mono hb.size); have hy2 : Below y2.heap.size y2 y2 := Below.refl _ _; clear ho); refine Shut.out hK _ _ _ hsub (by assumption) ?_; clear hK K hsub; (try simp only [Act.put, zA, zB, zC]); (try refine eagerXOpen rfl ?_))
   have HC2 : Hid (∀ w', Below y2.heap.size y2 w' → (convert 22 9 (.slice p2 (fD d k).now.length c2)).run Tryz.prog w' = .ok (.string (S (fD d k).now)) w') := fun w' hb => bconv (HO2.out.below hb)
   have HKP2 : Hid (∀ w', Below y2.heap.size y2 w' → w'.cell? ⟨w.heap.size, k * 2, none⟩ = some (.slice t.kp (fD d k).kept.length t.kc)) := fun w' hb => HKP.out w' (HY2.out.trans (hb.mono HY2.out.size))
   have HC42 : Hid (∀ w', Below y2.heap.size y2 w' → (convert 22 9 (.slice t.kp (fD d k).kept.length t.kc)).run Tryz.prog w' = .ok (.string (S (fD d k).kept)) w') := fun w' hb => HC4.out w' (HY2.out.trans (hb.mono HY2.out.size))
   repeat (first
    | (apply wpEagerX_take; (· rfl); (· (intro w' hb'; have hk' := (fun w' hb => HC2.out w' hb) w' hb'; go_split_ands; go_simp; try with_reducible rfl)); (try simp only [Act.put, zA, zB, zC]); (try refine eagerXOpen rfl ?_))
    | (apply wpEagerX_take; (· rfl); (· (intro w' hb'; have hk' := (fun w' hb => HKP2.out w' hb) w' hb'; go_split_ands; go_simp; try with_reducible rfl)); (try simp only [Act.put, zA, zB, zC]); (try refine eagerXOpen rfl ?_))
    | (apply wpEagerX_take; (· rfl); (· (intro w' hb'; have hk' := (fun w' hb => HC42.out w' hb) w' hb'; go_split_ands; go_simp; try with_reducible rfl)); (try simp only [Act.put, zA, zB, zC]); (try refine eagerXOpen rfl ?_))
    | ((first | (apply wpEagerX_take; (· rfl); (· (intro w' hb'; go_simp; try with_reducible rfl))) | refine wpEagerX_skip (by rfl) ?_ | refine wpEager_off (by rfl) ?_); (try simp only [Act.put, zA, zB, zC]); (try refine eagerXOpen rfl ?_)))
   (refine wpEagerX_op (by rfl) (fun K hK => ?_); go_simp; (refine (xkeptV y2 (HXR.out.below HY2.out) k hlt).mono ?_; rintro e y3 ⟨p3, c3, rfl, ho, hb3⟩; have HO3 := Lib.hid ho; have HY3 := Lib.hid (HY2.out.trans (hb3.mono HY2.out.size)); have hsub : ∀ x, Below y3.heap.size y3 x → Below y2.heap.size y2 x := fun x hx => hb3.trans (hx.mono hb3.size); have hy3 : Below y3.heap.size y3 y3 := Below.refl _ _; clear ho); refine Shut.out hK _ _ _ hsub (by assumption) ?_; clear hK K hsub; (try simp only [Act.put, zA, zB, zC]); (try refine eagerXOpen rfl ?_))
   have HC3 : Hid (∀ w', Below y3.heap.size y3 w' → (convert 22 9 (.slice p3 (fD d k).kept.length c3)).run Tryz.prog w' = .ok (.string (S (fD d k).kept)) w') := fun w' hb => bconv (HO3.out.below hb)
   repeat (first
    | (apply wpEagerX_take; (· rfl); (· (intro w' hb'; have hk' := (fun w' hb => HC3.out w' hb) w' hb'; go_split_ands; go_simp; try with_reducible rfl)); (try simp only [Act.put, zA, zB, zC]); (try refine eagerXOpen rfl ?_))
    | ((first | (apply wpEagerX_take; (· rfl); (· (intro w' hb'; go_simp; try with_reducible rfl))) | refine wpEagerX_skip (by rfl) ?_ | refine wpEager_off (by rfl) ?_); (try simp only [Act.put, zA, zB, zC]); (try refine eagerXOpen rfl ?_)))
   refine eagerXEnd ?_
   clear HC1 HC2 HC3 HC4 HC42 HKP HKP2 hy0 hy1 hy2 hy3 HO1 HO2 HO3 HLF HFA HNB HT HF HXR HRR
   have HBW2 := Lib.hid (HBW.out.trans (HY3.out.mono HBW.out.size))
   clear HY1 HY2 HY3 HBW
   go_wp2_with fail
   go_roundw
   case rel => exact ⟨k + 1, by omega, by go_num, HBW2.out⟩
   case measure => simp [intOf]; omega
  ·obtain rfl : k = 3 := by omega
   have hd : decide ((3 : Int) < (3 : Int)) = false := by decide
   have HB2 := Lib.hid (HB1.out.trans (HBW.out.mono HB1.out.size))
   have hsn := vsnap_any wr (HXV.out.below HBW.out) (by have := HBL.out; omega)
   unfold SnapP at hsn
   have HSN := Lib.hid hsn
   clear hsn
   go_upto_region 6 with fail
   go_wp2_with fail
   refine HSN.out.mono ?_
   rintro e wG ⟨p6, c6, rfl, ho6, hb6⟩
   have HBG := Lib.hid (HBW.out.trans (hb6.mono HBW.out.size))
   have HB3 := Lib.hid (HB2.out.trans (hb6.mono HB2.out.size))
   have HO6 := Lib.hid (own_bs ho6)
   have HXG := Lib.hid (HXV.out.below HBG.out)
   have HRG := Lib.hid (HRV.out.below HBG.out)
   have HRW := Lib.hid (Below.keepOld HBG.out HROW.out)
   clear ho6 hb6 HSN HBW HB2 HXV HX HRV HROW HB1 HBG
   have HC1 : Hid (∀ w', Below wG.heap.size wG w' → (convert 22 9 (.slice p6 v.body.length c6)).run Tryz.prog w' = .ok (.string (S v.body)) w') := fun w' hb => bconv (HO6.out.below hb)
   have HC2 : Hid (∀ w', Below wG.heap.size wG w' → (convert 22 9 (.slice pb v.body.length cb)).run Tryz.prog w' = .ok (.string (S v.body)) w') := fun w' hb => bconv (HRG.out.vb.below hb).bs
   have HK : Hid (∀ w', Below wG.heap.size wG w' → w'.cell? ⟨w.heap.size, 14, none⟩ = some (.int .u64 (v.last : Int)) ∧ w'.cell? ⟨w.heap.size, 15, none⟩ = some (.bool v.some) ∧ w'.cell? ⟨w.heap.size, 16, none⟩ = some (.slice pb v.body.length cb) ∧ w'.cell? ⟨w.heap.size, 17, none⟩ = some (.slice pa v.after.length ca)) := fun w' hb => rv_cells HN3.out HM3.out (Below.keepOld hb HRW.out)
   have HC8 : Hid (∀ w', Below wG.heap.size wG w' → w'.cell? ⟨w.heap.size, 8, none⟩ = some (.bool d.down)) := fun w' hb => rv_down HN3.out HM3.out (Below.keepOld hb HRW.out)
   have hqs : (v.some == v.some) = true := beq_self_eq_true _
   have hqn : (IntKind.u64.wrap ((v.last : Int) + 1) == IntKind.u64.wrap ((v.last : Int) + 1)) = true := beq_self_eq_true _
   have hqz : (((fD d 0).now.length : Int) == ((fD d 0).now.length : Int)) = true := beq_self_eq_true _
   have hq3 : (d.down == d.down) = true := beq_self_eq_true _
   go_upto_region 7 with fail
   refine wp_region_eager [(0, true), (1, true), (2, true), (3, true), (4, true), (5, true), (6, true), (7, true), (8, true), (9, true), (10, true), (11, true), (12, true), (13, true), (15, true), (16, true), (14, false), (17, false), (18, true), (19, true), (20, true), (22, true), (23, true), (24, true), (21, false), (25, true), (26, true), (27, true), (28, true), (30, true), (29, false), (31, false), (32, true), (33, true), (34, true), (35, true), (37, true), (38, true), (39, true), (36, false), (40, true), (41, true), (42, true)] (by kernel_rfl) (by kernel_rfl) (eagerOpen rfl ?_)
   have hy0 : Below wG.heap.size wG wG.drew := below_drew1 _ _
   repeat (first
    | (apply wpEager_take; (· rfl); (· (intro w' hb'; have hk' := (fun w' hb => HC1.out w' hb) w' hb'; go_split_ands; go_simp; try with_reducible rfl)); (try simp only [Act.put, zA, zB, zC]); (try refine eagerOpen rfl ?_))
    | (apply wpEager_take; (· rfl); (· (intro w' hb'; have hk' := (fun w' hb => HC2.out w' hb) w' hb'; go_split_ands; go_simp; try with_reducible rfl)); (try simp only [Act.put, zA, zB, zC]); (try refine eagerOpen rfl ?_))
    | (apply wpEager_take; (· rfl); (· (intro w' hb'; have hk' := (fun w' hb => HK.out w' hb) w' hb'; go_split_ands; go_simp; try with_reducible rfl)); (try simp only [Act.put, zA, zB, zC]); (try refine eagerOpen rfl ?_))
    | ((first | (apply wpEager_take; (· rfl); (· (intro w' hb'; go_simp; try with_reducible rfl))) | refine wpEager_skip (by rfl) ?_ | refine wpEager_off (by rfl) ?_); (try simp only [Act.put, zA, zB, zC]); (try refine eagerOpen rfl ?_)))
   have hre := vrecs_any wG.drew (HXG.out.below hy0) HAL.out HAX.out
   unfold RecsP at hre
   have HRE := Lib.hid hre
   clear hre
   (refine wpEager_op (by rfl) (fun K hK => ?_); go_simp; (refine HRE.out.mono ?_; rintro e y ⟨p7, c7, rfl, ho7, hb7⟩; have HY1 := Lib.hid (hy0.trans (hb7.mono hy0.size)); have hy1 : Below wG.heap.size wG y := HY1.out; have HLS := Lib.hid ho7; clear ho7 hb7 HRE); refine Shut.out hK _ _ (by assumption) ?_; clear hK K; (try simp only [Act.put, zA, zB, zC]); (try refine eagerOpen rfl ?_))
   have HPT : Hid (Pts y p7 v.after.length c7 v.after) := by
    obtain ⟨p', c', e1, h1⟩ := HLS.out.ls.sl
    cases e1
    exact h1
   have HPR : Hid (Pts y pa v.after.length ca v.after) := by
    obtain ⟨p', c', e1, h1⟩ := (HRG.out.af.below HY1.out).sl
    cases e1
    exact h1
   have hsm := Frm.same_any p7 pa v.after.length c7 v.after.length ca v.after v.after y HPT.out HPR.out
   rw [beq_self_eq_true] at hsm
   have HSM := Lib.hid hsm
   clear hsm
   repeat (first
    | (apply wpEager_take; (· rfl); (· (intro w' hb'; have hk' := (fun w' hb => HK.out w' hb) w' hb'; go_split_ands; go_simp; try with_reducible rfl)); (try simp only [Act.put, zA, zB, zC]); (try refine eagerOpen rfl ?_))
    | ((first | (apply wpEager_take; (· rfl); (· (intro w' hb'; go_simp; try with_reducible rfl))) | refine wpEager_skip (by rfl) ?_ | refine wpEager_off (by rfl) ?_); (try simp only [Act.put, zA, zB, zC]); (try refine eagerOpen rfl ?_)))
   (refine wpEager_op (by rfl) (fun K hK => ?_); go_simp; (refine HSM.out.mono ?_; rintro e y2 ⟨rfl, hb8⟩; have HY2 := Lib.hid (HY1.out.trans (hb8.mono HY1.out.size)); have hy2 : Below wG.heap.size wG y2 := HY2.out; clear hb8 HSM); refine Shut.out hK _ _ (by assumption) ?_; clear hK K; (try simp only [Act.put, zA, zB, zC]); (try refine eagerOpen rfl ?_))
   repeat (first
    | (apply wpEager_take; (· rfl); (· (intro w' hb'; have hk' := (fun w' hb => HK.out w' hb) w' hb'; go_split_ands; go_simp; try with_reducible rfl)); (try simp only [Act.put, zA, zB, zC]); (try refine eagerOpen rfl ?_))
    | ((first | (apply wpEager_take; (· rfl); (· (intro w' hb'; go_simp; try with_reducible rfl))) | refine wpEager_skip (by rfl) ?_ | refine wpEager_off (by rfl) ?_); (try simp only [Act.put, zA, zB, zC]); (try refine eagerOpen rfl ?_)))
   (refine wpEager_op (by rfl) (fun K hK => ?_); go_simp; (refine (vnextw_any _ (HXG.out.below HY2.out)).mono ?_; rintro e y3 ⟨rfl, rfl⟩); refine Shut.out hK _ _ (by assumption) ?_; clear hK K; (try simp only [Act.put, zA, zB, zC]); (try refine eagerOpen rfl ?_))
   repeat (first
    | (apply wpEager_take; (· rfl); (· (intro w' hb'; have hk' := (fun w' hb => HK.out w' hb) w' hb'; go_split_ands; go_simp; try with_reducible rfl)); (try simp only [Act.put, zA, zB, zC]); (try refine eagerOpen rfl ?_))
    | ((first | (apply wpEager_take; (· rfl); (· (intro w' hb'; go_simp; try with_reducible rfl))) | refine wpEager_skip (by rfl) ?_ | refine wpEager_off (by rfl) ?_); (try simp only [Act.put, zA, zB, zC]); (try refine eagerOpen rfl ?_)))
   (refine wpEager_op (by rfl) (fun K hK => ?_); go_simp; (refine (vsize_any _ (HXG.out.below HY2.out)).mono ?_; rintro e y3 ⟨rfl, hb9⟩; have HY3 := Lib.hid (HY2.out.trans (hb9.mono HY2.out.size)); have hy3 : Below wG.heap.size wG y3 := HY3.out; clear hb9); refine Shut.out hK _ _ (by assumption) ?_; clear hK K; (try simp only [Act.put, zA, zB, zC]); (try refine eagerOpen rfl ?_))
   repeat (first
    | ((first | (apply wpEager_take; (· rfl); (· (intro w' hb'; go_simp; try with_reducible rfl))) | refine wpEager_skip (by rfl) ?_ | refine wpEager_off (by rfl) ?_); (try simp only [Act.put, zA, zB, zC]); (try refine eagerOpen rfl ?_)))
   (refine wpEager_op (by rfl) (fun K hK => ?_); go_simp; (refine (xsize _ (HXG.out.below HY3.out).dxV 0 (by omega)).mono ?_; rintro e y4 ⟨rfl, hb10⟩; have HY4 := Lib.hid (HY3.out.trans (hb10.mono HY3.out.size)); have hy4 : Below wG.heap.size wG y4 := HY4.out; clear hb10); refine Shut.out hK _ _ (by assumption) ?_; clear hK K; (try simp only [Act.put, zA, zB, zC]); (try refine eagerOpen rfl ?_))
   repeat (first
    | (apply wpEager_take; (· rfl); (· (intro w' hb'; have hk' := (fun w' hb => HC8.out w' hb) w' hb'; go_split_ands; go_simp; try with_reducible rfl)); (try simp only [Act.put, zA, zB, zC]); (try refine eagerOpen rfl ?_))
    | ((first | (apply wpEager_take; (· rfl); (· (intro w' hb'; go_simp; try with_reducible rfl))) | refine wpEager_skip (by rfl) ?_ | refine wpEager_off (by rfl) ?_); (try simp only [Act.put, zA, zB, zC]); (try refine eagerOpen rfl ?_)))
   (refine wpEager_op (by rfl) (fun K hK => ?_); go_simp; (refine (xdownS _ (HXG.out.below HY4.out).dxV).mono ?_; rintro e y5 ⟨rfl, rfl⟩); refine Shut.out hK _ _ (by assumption) ?_; clear hK K; (try simp only [Act.put, zA, zB, zC]); (try refine eagerOpen rfl ?_))
   repeat (first
    | ((first | (apply wpEager_take; (· rfl); (· (intro w' hb'; go_simp; try with_reducible rfl))) | refine wpEager_skip (by rfl) ?_ | refine wpEager_off (by rfl) ?_); (try simp only [Act.put, zA, zB, zC]); (try refine eagerOpen rfl ?_)))
   refine eagerEnd ?_
   have HB4 := Lib.hid (HB3.out.trans (HY4.out.mono HB3.out.size))
   clear hy0 hy1 hy2 hy3 hy4
   go_wp2_with fail
   go_ret
   exact ⟨rfl, HB4.out⟩
end Go.Proofs.YtnejjfglkindjaaGreatDoor.Vlt
namespace Go.Proofs.YtnejjfglkindjaaGreatDoor.Vlt
open Go.RowKit Go.Mir Dk Rol Wr Slt
open Frm (frame scan frame_length)
theorem runV_le : ∀ (bs : List (List UInt8)) (v v' : VS), runV v bs = some v' → v.last ≤ v'.last ∧ ∀ b ∈ bs, 9 ≤ b.length ∧ Rdr.beN (b.take 8) ≤ v'.last
 | [], v, v', h => by
  obtain rfl := Option.some.inj h
  exact ⟨Nat.le_refl _, fun b hb => (nomatch hb)⟩
 | b :: r, v, v', h => by
  rw [runV] at h
  unfold stepV at h
  by_cases h9 : b.length < 9
  ·rw [if_pos h9] at h; cases h
  ·rw [if_neg h9] at h
   by_cases h1 : Rdr.beN (b.take 8) ≤ v.last
   ·rw [if_pos h1] at h
    obtain ⟨a, c⟩ := runV_le r v v' h
    refine ⟨a, fun y hy => ?_⟩
    rcases List.mem_cons.1 hy with rfl | hy
    ·exact ⟨by omega, by omega⟩
    ·exact c y hy
   ·rw [if_neg h1] at h
    by_cases h2 : Rdr.beN (b.take 8) = v.last + 1
    ·rw [if_pos h2] at h
     obtain ⟨a, c⟩ := runV_le r _ v' h
     have a : Rdr.beN (b.take 8) ≤ v'.last := a
     refine ⟨by omega, fun y hy => ?_⟩
     rcases List.mem_cons.1 hy with rfl | hy
     ·exact ⟨by omega, a⟩
     ·exact c y hy
    ·rw [if_neg h2] at h; cases h
theorem runV_skip : ∀ (bs : List (List UInt8)) (v : VS), (∀ b ∈ bs, 9 ≤ b.length ∧ Rdr.beN (b.take 8) ≤ v.last) → runV v bs = some v
 | [], _, _ => rfl
 | b :: r, v, h => by
  obtain ⟨a, c⟩ := h b (List.mem_cons_self ..)
  rw [runV]
  unfold stepV
  rw [if_neg (by omega), if_pos c]
  exact runV_skip r v (fun y hy => h y (List.mem_cons_of_mem _ hy))
def pushV (v : VS) (r : List UInt8) : VS := ⟨v.last + 1, v.some, v.body, v.after ++ [r]⟩
def compV (v : VS) (x : List UInt8) : VS := ⟨v.last, true, x, []⟩
theorem fill_push {s : SS} {bs : List (List UInt8)} {v : VS} {r : List UInt8} (h : fillV s bs = some v) (h1 : 1 ≤ r.length) (h2 : v.last + 1 < 18446744073709551616) : fillV s (bs ++ [vputR v r]) = some (pushV v r) := by
 unfold fillV at h ⊢
 cases hs : startV s with
 | none => rw [hs] at h; cases h
 | some v0 =>
  rw [hs] at h
  have h : runV v0 bs = some v := h
  show runV v0 (bs ++ [vputR v r]) = _
  rw [runV_snoc, h]
  show stepV v (vputR v r) = _
  have hl : (vputR v r).length = 8 + r.length := by unfold vputR; rw [List.length_append, be_length]
  have ht : Rdr.beN ((vputR v r).take 8) = v.last + 1 := by unfold vputR; rw [List.take_left' (be_length _ 8), Cod.beN_be _ 8 (by omega) (by omega)]
  have hd : (vputR v r).drop 8 = r := by unfold vputR; rw [List.drop_left' (be_length _ 8)]
  unfold stepV
  rw [if_neg (by omega), ht, if_neg (by omega), if_pos rfl, hd]
  rfl
theorem fill_all {s : SS} {bs : List (List UInt8)} {v : VS} (h : fillV s bs = some v) : ∀ b ∈ bs, 9 ≤ b.length ∧ Rdr.beN (b.take 8) ≤ v.last := by
 unfold fillV at h
 cases hs : startV s with
 | none => rw [hs] at h; cases h
 | some v0 =>
  rw [hs] at h
  exact (runV_le bs v0 v h).2
theorem fill_comp {f : Int} {t : Nat} {bs : List (List UInt8)} {v : VS} {x : List UInt8} (h : ∀ b ∈ bs, 9 ≤ b.length ∧ Rdr.beN (b.take 8) ≤ v.last) (h2 : v.last < 18446744073709551616) : fillV ⟨f, t + 1, vcR v x⟩ bs = some (compV v x) := by
 have hl : (vcR v x).length = 8 + x.length := by unfold vcR; rw [List.length_append, be_length]
 have ht : Rdr.beN ((vcR v x).take 8) = v.last := by unfold vcR; rw [List.take_left' (be_length _ 8), Cod.beN_be _ 8 (by omega) (by omega)]
 have hd : (vcR v x).drop 8 = x := by unfold vcR; rw [List.drop_left' (be_length _ 8)]
 have hs : startV ⟨f, t + 1, vcR v x⟩ = some (compV v x) := by
  unfold startV
  rw [if_neg (show ¬ t + 1 = 0 by omega), if_neg (show ¬ (vcR v x).length < 8 by omega)]
  show some (VS.mk (Rdr.beN ((vcR v x).take 8)) true ((vcR v x).drop 8) []) = _
  rw [ht, hd]
  rfl
 unfold fillV
 rw [hs]
 exact runV_skip bs (compV v x) h
theorem do3 {d : DD} {i : Nat} {f : FD} {s : St} (h1 : d.down = false) :
  (doE d i f s = 0 ∧ doD d i f s = wF (setF d i (f.take s)) (d.fuse - 1) false) ∨ (doE d i f s = 18 ∧ doD d i f s = wF (setF d i (f.take s)) 0 true) ∨ (doE d i f s = 17 ∧ doD d i f s = d ∧ d.room < usedL d.fs - f.need + max f.need (s.size f.now.length)) := by
 by_cases h : d.room < usedL d.fs - f.need + max f.need (s.size f.now.length)
 ·refine .inr (.inr ⟨?_, ?_, h⟩)
  ·unfold doE; rw [if_neg (by rw [h1]; decide), if_pos h]
  ·unfold doD; rw [if_neg (by rw [h1]; decide), if_pos h]
 ·rcases do_fz (i := i) (f := f) (s := s) h1 (by omega) with h | h
  ·exact .inl h
  ·exact .inr (.inl h)
theorem setF_self {d : DD} {i : Nat} (h : i < d.fs.length) : setF d i (fD d i) = d := by
 unfold setF
 rw [← fD_eq h, List.set_getElem_self]
theorem need_le {d : DD} {i : Nat} (h : i < d.fs.length) : (fD d i).need ≤ usedL d.fs := by
 have := usedL_mem h
 rwa [fD_eq h] at this
theorem app3 {d : DD} {i : Nat} {x b : List UInt8} (hi : i < d.fs.length) (h1 : d.down = false) (hf : fD d i = fS x) (hb : 1 ≤ b.length) :
  (appE d i b = 0 ∧ ∃ k, appD d i b = wF (setF d i (fS (x ++ frame b))) k false) ∨
  (appE d i b = 18 ∧ appD d i b = wF (setF d i ⟨x, x ++ frame b, [.put (frame b)], x.length + (frame b).length⟩) 0 true) ∨
  (appE d i b = 17 ∧ appD d i b = d ∧ d.room < usedL d.fs + (frame b).length) := by
 have hn := need_le hi
 rw [hf] at hn
 have hn : x.length ≤ usedL d.fs := hn
 have hb0 : ¬ b.length = 0 := by omega
 unfold appE appD
 rw [if_neg hb0, if_neg hb0, hf]
 rcases do3 (i := i) (f := fS x) (s := .put (frame b)) h1 with ⟨e1, e2⟩ | ⟨e1, e2⟩ | ⟨e1, e2, e3⟩
 ·rw [take_put] at e2
  rw [if_pos e1, if_pos e1, e2]
  have hfd : fD (wF (setF d i ⟨x, x ++ frame b, [.put (frame b)], x.length + (frame b).length⟩) (d.fuse - 1) false) i = ⟨x, x ++ frame b, [.put (frame b)], x.length + (frame b).length⟩ := fD_set hi _
  rw [hfd]
  rcases sync_fz (d := wF (setF d i ⟨x, x ++ frame b, [.put (frame b)], x.length + (frame b).length⟩) (d.fuse - 1) false) (i := i) (f := ⟨x, x ++ frame b, [.put (frame b)], x.length + (frame b).length⟩) rfl with ⟨g1, g2⟩ | ⟨g1, g2⟩
  ·rw [settle_put, setF_wF, setF_setF, wF_wF] at g2
   exact .inl ⟨g1, _, g2⟩
  ·rw [wF_wF] at g2
   exact .inr (.inl ⟨g1, g2⟩)
 ·rw [take_put] at e2
  have hne : ¬ doE d i (fS x) (.put (frame b)) = 0 := by rw [e1]; decide
  rw [if_neg hne, if_neg hne]
  exact .inr (.inl ⟨e1, e2⟩)
 ·have hne : ¬ doE d i (fS x) (.put (frame b)) = 0 := by rw [e1]; decide
  rw [if_neg hne, if_neg hne]
  refine .inr (.inr ⟨e1, e2, ?_⟩)
  have e3 : d.room < usedL d.fs - x.length + max x.length (x.length + (frame b).length) := e3
  omega
theorem clr3 {d : DD} {i g : Nat} {x : List UInt8} (hi : i < d.fs.length) (h1 : d.down = false) (hf : fD d i = fS x) (hg : g ≤ x.length) (hu : usedL d.fs ≤ d.room) :
  (clrE d i g = 0 ∧ clrD d i g = wF (setF d i (fS (x.take g))) (d.fuse - 1 - 1) false) ∨
  (clrE d i g = 18 ∧ clrD d i g = wF (setF d i ⟨x, x.take g, [.cut g], x.length⟩) 0 true ∧ d.fuse ≠ 0) := by
 have hn := need_le hi
 rw [hf] at hn
 have hn : x.length ≤ usedL d.fs := hn
 have hz0 : ∀ {k : Nat} {y : Bool} {D : DD}, doD d i (fS x) (.cut g) = wF D k y → doE d i (fS x) (.cut g) = 18 → d.fuse ≠ 0 := fun {k y D} _ he h0 => by
  unfold doE at he
  rw [if_neg (by rw [h1]; decide)] at he
  have hb : (setF d i ((fS x).take (.cut g))).burn.down = false := by
   unfold DD.burn
   rw [if_neg (by show ¬ 0 < d.fuse; omega)]
   exact h1
  rw [hb] at he
  split at he
  ·exact absurd he (by decide)
  ·exact absurd he (by decide)
 unfold clrE clrD
 rw [hf]
 rcases do_fz (i := i) (f := fS x) (s := .cut g) h1 (by show usedL d.fs - x.length + max x.length g ≤ _; omega) with ⟨e1, e2⟩ | ⟨e1, e2⟩
 ·have e0 := e2
  rw [take_cut x g hg] at e2
  rw [if_pos e1, if_pos e1, e2]
  have hfd : fD (wF (setF d i ⟨x, x.take g, [.cut g], x.length⟩) (d.fuse - 1) false) i = ⟨x, x.take g, [.cut g], x.length⟩ := fD_set hi _
  rw [hfd]
  rcases sync_fz (d := wF (setF d i ⟨x, x.take g, [.cut g], x.length⟩) (d.fuse - 1) false) (i := i) (f := ⟨x, x.take g, [.cut g], x.length⟩) rfl with ⟨g1, g2⟩ | ⟨g1, g2⟩
  ·rw [settle_cut, setF_wF, setF_setF, wF_wF] at g2
   exact .inl ⟨g1, g2⟩
  ·have hb0 : d.fuse ≠ 0 := fun h0 => by
    unfold syncE at g1
    rw [if_neg (by show ¬ false = true; decide)] at g1
    have hb : (wF (setF d i ⟨x, x.take g, [.cut g], x.length⟩) (d.fuse - 1) false).burn.down = false := by
     unfold DD.burn
     rw [if_neg (by show ¬ 0 < d.fuse - 1; omega)]
     rfl
    rw [hb] at g1
    exact absurd g1 (by decide)
   rw [wF_wF] at g2
   exact .inr ⟨g1, g2, hb0⟩
 ·have hb0 := hz0 e2 e1
  rw [take_cut x g hg] at e2
  have hne : ¬ doE d i (fS x) (.cut g) = 0 := by rw [e1]; decide
  rw [if_neg hne, if_neg hne]
  exact .inr ⟨e1, e2, hb0⟩
theorem mend3 {d : DD} {i : Nat} {x : List UInt8} (hi : i < d.fs.length) (h1 : d.down = false) (hf : fD d i = fS x) (hu : usedL d.fs ≤ d.room) :
  (mendE d i = 0 ∧ ∃ k, mendD d i = wF (setF d i (fS (x.take (scan x).2))) k false ∧ (d.fuse = 0 → k = 0)) ∨
  (mendE d i = 18 ∧ mendD d i = wF (setF d i ⟨x, x.take (scan x).2, [.cut (scan x).2], x.length⟩) 0 true ∧ d.fuse ≠ 0) := by
 have hsl := scan_le x
 by_cases hg : (scan x).2 < x.length
 ·have hm : mendE d i = clrE d i (scan x).2 ∧ mendD d i = clrD d i (scan x).2 := by
   unfold mendE mendD clrE clrD
   rw [hf, if_pos (show (scan (fS x).now).2 < (fS x).now.length from hg), if_pos (show (scan (fS x).now).2 < (fS x).now.length from hg)]
   show (if doE d i (fS x) (.cut (scan x).2) = 0 then endE (doD d i (fS x) (.cut (scan x).2)) i else doE d i (fS x) (.cut (scan x).2)) = _ ∧ (if doE d i (fS x) (.cut (scan x).2) = 0 then endD (doD d i (fS x) (.cut (scan x).2)) i else doD d i (fS x) (.cut (scan x).2)) = _
   by_cases h0 : doE d i (fS x) (.cut (scan x).2) = 0
   ·rw [if_pos h0, if_pos h0, if_pos h0, if_pos h0]
    have hfd : fD (doD d i (fS x) (.cut (scan x).2)) i = ⟨x, x.take (scan x).2, [.cut (scan x).2], x.length⟩ := by
     rcases do3 (i := i) (f := fS x) (s := .cut (scan x).2) h1 with ⟨_, e2⟩ | ⟨e1, _⟩ | ⟨e1, _⟩
     ·rw [e2, take_cut x _ hsl]
      exact fD_set hi _
     ·rw [e1] at h0; exact absurd h0 (by decide)
     ·rw [e1] at h0; exact absurd h0 (by decide)
    have hu1 : ¬ unitsAll [St.cut (scan x).2] = 0 := by show ¬ 1 + 0 = 0; omega
    unfold endE endD
    rw [hfd, if_neg hu1, if_neg hu1]
    exact ⟨rfl, rfl⟩
   ·rw [if_neg h0, if_neg h0, if_neg h0, if_neg h0]
    exact ⟨rfl, rfl⟩
  rw [hm.1, hm.2]
  rcases clr3 hi h1 hf hsl hu with ⟨a, b⟩ | h
  ·exact .inl ⟨a, _, b, fun h0 => by omega⟩
  ·exact .inr h
 ·refine .inl ?_
  unfold mendE mendD endE endD
  rw [hf, if_neg (show ¬ (scan (fS x).now).2 < (fS x).now.length from hg), if_neg (show ¬ (scan (fS x).now).2 < (fS x).now.length from hg), if_pos (show unitsAll (fS x).steps = 0 from rfl), if_pos (show unitsAll (fS x).steps = 0 from rfl), List.take_of_length_le (by omega), ← hf, setF_self hi]
  refine ⟨rfl, d.fuse, ?_, fun h => h⟩
  obtain ⟨fs, room, fuse, down⟩ := d
  have h1 : down = false := h1
  subst h1
  rfl
theorem put2_3 {d : DD} {i : Nat} {fr : List UInt8} (hi : i < d.fs.length) (h1 : d.down = false) (hf : fD d i = fS []) :
  (∃ k, layE i [.put fr, .sync] d = 0 ∧ layD i [.put fr, .sync] d = wF (setF d i (fS fr)) k false ∧ usedL d.fs + fr.length ≤ d.room) ∨ (layE i [.put fr, .sync] d = 18 ∧ layD i [.put fr, .sync] d = wF (setF d i ⟨[], fr, [.put fr], fr.length⟩) 0 true) ∨ (layE i [.put fr, .sync] d = 17 ∧ layD i [.put fr, .sync] d = d ∧ d.room < usedL d.fs + fr.length) := by
 by_cases hr : usedL d.fs + fr.length ≤ d.room
 ·rcases put2_fz hi h1 hf hr with ⟨k, a, b⟩ | h
  ·exact .inl ⟨k, a, b, hr⟩
  ·exact .inr (.inl h)
 ·have hr2 : d.room < usedL d.fs - (fD d i).need + max (fD d i).need ((St.put fr).size (fD d i).now.length) := by
   rw [hf]
   show d.room < usedL d.fs - 0 + max 0 (0 + fr.length)
   omega
  have e1 : stpE d i (.put fr) = 17 := by
   show doE d i (fD d i) (.put fr) = 17
   unfold doE
   rw [if_neg (by rw [h1]; decide), if_pos hr2]
  have e2 : stpD d i (.put fr) = d := by
   show doD d i (fD d i) (.put fr) = d
   unfold doD
   rw [if_neg (by rw [h1]; decide), if_pos hr2]
  obtain ⟨c1, c2⟩ := lay_no (r := [.sync]) (show ¬ stpE d i (.put fr) = 0 by rw [e1]; decide)
  rw [c1, c2]
  exact .inr (.inr ⟨e1, e2, by omega⟩)
theorem lay3 {d : DD} {i : Nat} {y fr : List UInt8} (hi : i < d.fs.length) (h1 : d.down = false) (hf : fD d i = fS y) (hu : usedL d.fs ≤ d.room) :
  (∃ k, layE i (acts d i fr) d = 0 ∧ layD i (acts d i fr) d = wF (setF d i (fS fr)) k false ∧ usedL d.fs + fr.length ≤ d.room + y.length) ∨ (layE i (acts d i fr) d = 18 ∧ ∃ g, Torn y fr g ∧ layD i (acts d i fr) d = wF (setF d i g) 0 true) ∨
  (layE i (acts d i fr) d = 17 ∧ (∃ k, layD i (acts d i fr) d = wF (setF d i (fS [])) k false) ∧ d.room < usedL d.fs + fr.length) := by
 have hm := need_le hi
 rw [hf] at hm
 have hm : y.length ≤ usedL d.fs := hm
 by_cases hr : usedL d.fs + fr.length ≤ d.room
 ·rcases lay_fz hi h1 hf hr with ⟨k, a, b⟩ | h
  ·exact .inl ⟨k, a, b, by omega⟩
  ·exact .inr (.inl h)
 unfold acts
 by_cases hfu : full d i = true
 ·rw [if_pos hfu]
  have ht : (fS y).take (.cut 0) = ⟨y, [], [.cut 0], y.length⟩ := by rw [take_cut y 0 (Nat.zero_le _), List.take_zero]
  have hst : (⟨y, [], [.cut 0], y.length⟩ : FD).settle (unitsAll [.cut 0]) = fS [] := by
   have := settle_cut y 0 y.length
   rwa [List.take_zero] at this
  rcases do_fz (i := i) (f := fD d i) (s := .cut 0) h1 (by rw [hf]; show usedL d.fs - y.length + max y.length 0 ≤ _; omega) with ⟨e1, e2⟩ | ⟨e1, e2⟩
  ·rw [hf, ht] at e2
   have e1' : stpE d i .cut = 0 := e1
   have e2' : stpD d i .cut = wF (setF d i ⟨y, [], [.cut 0], y.length⟩) (d.fuse - 1) false := by
    show doD d i (fD d i) (.cut 0) = _
    rw [hf]; exact e2
   obtain ⟨c1, c2⟩ := lay_ok (r := [.sync, .put fr, .sync]) e1'
   rw [c1, c2, e2']
   have hfd : fD (wF (setF d i ⟨y, [], [.cut 0], y.length⟩) (d.fuse - 1) false) i = ⟨y, [], [.cut 0], y.length⟩ := fD_set hi _
   rcases sync_fz (d := wF (setF d i ⟨y, [], [.cut 0], y.length⟩) (d.fuse - 1) false) (i := i) (f := ⟨y, [], [.cut 0], y.length⟩) rfl with ⟨g1, g2⟩ | ⟨g1, g2⟩
   ·rw [hst, setF_wF, setF_setF, wF_wF] at g2
    have g2' : stpD (wF (setF d i ⟨y, [], [.cut 0], y.length⟩) (d.fuse - 1) false) i .sync = wF (setF d i (fS [])) (d.fuse - 1 - 1) false := by
     show syncD _ i (fD _ i) = _
     rw [hfd]; exact g2
    obtain ⟨k1, k2⟩ := lay_ok (i := i) (a := .sync) (r := [.put fr, .sync]) (d := wF (setF d i ⟨y, [], [.cut 0], y.length⟩) (d.fuse - 1) false) g1
    rw [k1, k2, g2']
    have hz := used_setF hi (fS [])
    rw [hf] at hz
    have hz : usedL (setF d i (fS [])).fs + y.length = usedL d.fs + 0 := hz
    have hl : (wF (setF d i (fS [])) (d.fuse - 1 - 1) false).fs.length = d.fs.length := List.length_set
    have := put2_3 (d := wF (setF d i (fS [])) (d.fuse - 1 - 1) false) (i := i) (fr := fr) (by rw [hl]; exact hi) rfl (fD_set hi _)
    rw [setF_wF, setF_setF, setF_wF, setF_setF] at this
    have hrm : (wF (setF d i (fS [])) (d.fuse - 1 - 1) false).room = d.room := rfl
    have hfs : (wF (setF d i (fS [])) (d.fuse - 1 - 1) false).fs = (setF d i (fS [])).fs := rfl
    rw [hrm, hfs] at this
    rcases this with ⟨k, a, b, hq⟩ | ⟨a, b⟩ | ⟨a, b, c⟩
    ·exact .inl ⟨k, a, b, by omega⟩
    ·exact .inr (.inl ⟨a, _, .inr rfl, b⟩)
    ·refine .inr (.inr ⟨a, ⟨_, b⟩, ?_⟩)
     omega
   ·rw [wF_wF] at g2
    have hne : ¬ stpE (wF (setF d i ⟨y, [], [.cut 0], y.length⟩) (d.fuse - 1) false) i .sync = 0 := by
     show ¬ syncE _ = 0
     rw [g1]; decide
    obtain ⟨k1, k2⟩ := lay_no (r := [.put fr, .sync]) hne
    rw [k1, k2]
    refine .inr (.inl ⟨g1, _, .inl rfl, ?_⟩)
    show syncD _ i (fD _ i) = _
    rw [hfd]; exact g2
  ·rw [hf, ht] at e2
   have hne : ¬ stpE d i .cut = 0 := by
    show ¬ doE d i (fD d i) (.cut 0) = 0
    rw [e1]; decide
   obtain ⟨c1, c2⟩ := lay_no (r := [.sync, .put fr, .sync]) hne
   rw [c1, c2]
   refine .inr (.inl ⟨e1, _, .inl rfl, ?_⟩)
   show doD d i (fD d i) (.cut 0) = _
   rw [hf]; exact e2
 ·rw [if_neg hfu]
  have hn0 : y = [] := by
   refine List.length_eq_zero_iff.1 (Nat.eq_zero_of_not_pos fun h => hfu ?_)
   unfold full
   rw [hf, decide_eq_true (show 0 < (fS y).now.length from h)]
   rfl
  subst hn0
  rcases put2_3 (fr := fr) hi h1 hf with ⟨k, a, b, hq⟩ | ⟨a, b⟩ | ⟨a, b, c⟩
  ·exact .inl ⟨k, a, b, by omega⟩
  ·exact .inr (.inl ⟨a, _, .inr rfl, b⟩)
  ·refine .inr (.inr ⟨a, ⟨d.fuse, ?_⟩, c⟩)
   rw [b, ← hf, setF_self hi]
   obtain ⟨fs, room, fuse, down⟩ := d
   have h1 : down = false := h1
   subst h1
   rfl
end Go.Proofs.YtnejjfglkindjaaGreatDoor.Vlt
namespace Go.Proofs.YtnejjfglkindjaaGreatDoor.Vlt
open Go.RowKit Go.Mir Dk Rol Wr Slt
open Frm (frame scan frame_length)
structure Vd (d : DD) (x y1 y2 : List UInt8) (s : SS) (v : VS) (n : Nat) : Prop where
 m3 : d.fs.length = 3
 f0 : fD d 0 = fS x
 f1 : fD d 1 = fS y1
 f2 : fD d 2 = fS y2
 cur : Cur y1 y2 s
 fill : fillV s (scan x).1 = some v
 turn : s.turn ≤ n
 last : v.last ≤ n
 len : x.length ≤ 24 * n
 l1 : y1.length ≤ 2000
 l2 : y2.length ≤ 2000
 bl : v.body.length ≤ 2000
 al : v.after.length ≤ n
 ax : ∀ r ∈ v.after, r.length ≤ 2000
theorem Vd.more {d : DD} {x y1 y2 : List UInt8} {s : SS} {v : VS} {n m : Nat} (h : Vd d x y1 y2 s v n) (hm : n ≤ m) : Vd d x y1 y2 s v m :=
 ⟨h.m3, h.f0, h.f1, h.f2, h.cur, h.fill, Nat.le_trans h.turn hm, Nat.le_trans h.last hm, by have := h.len; omega, h.l1, h.l2, h.bl, Nat.le_trans h.al hm, h.ax⟩
theorem Vd.wF {d : DD} {x y1 y2 : List UInt8} {s : SS} {v : VS} {n : Nat} (h : Vd d x y1 y2 s v n) (k : Nat) (b : Bool) : Vd (wF d k b) x y1 y2 s v n :=
 ⟨h.m3, h.f0, h.f1, h.f2, h.cur, h.fill, h.turn, h.last, h.len, h.l1, h.l2, h.bl, h.al, h.ax⟩
theorem Vd.frames {d : DD} {x y1 y2 : List UInt8} {s : SS} {v : VS} {n : Nat} (_h : Vd d x y1 y2 s v n) (hs : (scan x).2 = x.length) : x = (scan x).1.flatMap frame ∧ ∀ b ∈ (scan x).1, 1 ≤ b.length ∧ b.length ≤ 65536 := by
 obtain ⟨_, a, b⟩ := scan_len _ x (Nat.le_refl _)
 rw [hs, List.take_length] at a
 exact ⟨a, b⟩
theorem crash_m3 {d : DD} (h : d.fs.length = 3) (us : List Int) : (crashD us d).fs.length = 3 := by
 obtain ⟨fs, room, fuse, down⟩ := d
 obtain ⟨a, b, c, rfl⟩ := list3 h
 rfl
theorem Vd.at {d d' : DD} {x y1 y2 x' : List UInt8} {s : SS} {v : VS} {n : Nat} (h : Vd d x y1 y2 s v n) (m : d'.fs.length = 3) (e0 : fD d' 0 = fS x') (e1 : fD d' 1 = fS y1) (e2 : fD d' 2 = fS y2) (hl : x'.length ≤ 24 * n) (hf : fillV s (scan x').1 = some v) : Vd d' x' y1 y2 s v n :=
 ⟨m, e0, e1, e2, h.cur, hf, h.turn, h.last, hl, h.l1, h.l2, h.bl, h.al, h.ax⟩
theorem Vd.crash {d : DD} {x y1 y2 : List UInt8} {s : SS} {v : VS} {n : Nat} (h : Vd d x y1 y2 s v n) (us : List Int) : Vd (crashD us d) x y1 y2 s v n := by
 have e0 := fD_crash (us := us) h.m3 0 (by omega)
 have e1 := fD_crash (us := us) h.m3 1 (by omega)
 have e2 := fD_crash (us := us) h.m3 2 (by omega)
 rw [h.f0, settle_fS] at e0
 rw [h.f1, settle_fS] at e1
 rw [h.f2, settle_fS] at e2
 exact h.at (crash_m3 h.m3 us) e0 e1 e2 h.len h.fill
theorem Vd.told {d : DD} {x y1 y2 : List UInt8} {s : SS} {v : VS} {n : Nat} (h : Vd d x y1 y2 s v n) : opnS d 1 2 = s := by
 rw [opnS_is, h.f1, h.f2]
 exact h.cur.op
theorem Vd.log {d : DD} {x y1 y2 x' : List UInt8} {s : SS} {v v' : VS} {n m : Nat} (h : Vd d x y1 y2 s v n) (hm : n ≤ m) (k : Nat) (b : Bool) (hl : x'.length ≤ 24 * m) (hf : fillV s (scan x').1 = some v') (h1 : v'.last ≤ m) (h2 : v'.body.length ≤ 2000) (h3 : v'.after.length ≤ m) (h4 : ∀ r ∈ v'.after, r.length ≤ 2000) :
  Vd (Slt.wF (setF d 0 (fS x')) k b) x' y1 y2 s v' m := by
 have hi : 0 < d.fs.length := by rw [h.m3]; omega
 exact ⟨by show (List.set _ _ _).length = 3; rw [List.length_set]; exact h.m3, by rw [fD_wF]; exact fD_set hi _, by rw [fD_wF, fD_other (by omega)]; exact h.f1, by rw [fD_wF, fD_other (by omega)]; exact h.f2, h.cur, hf, Nat.le_trans h.turn hm, h1, hl, h.l1, h.l2, h2, h3, h4⟩
theorem Vd.torn {d : DD} {x y1 y2 : List UInt8} {s : SS} {v : VS} {n m : Nat} {g : FD} (h : Vd d x y1 y2 s v n) (hm : n ≤ m) (us : List Int) {x' : List UInt8} (hg : g.settle (crU us 0 g) = fS x') {v' : VS} (hl : x'.length ≤ 24 * m) (hf : fillV s (scan x').1 = some v') (h1 : v'.last ≤ m) (h2 : v'.body.length ≤ 2000) (h3 : v'.after.length ≤ m) (h4 : ∀ r ∈ v'.after, r.length ≤ 2000) :
  Vd (crashD us (Slt.wF (setF d 0 g) 0 true)) x' y1 y2 s v' m := by
 have hi : 0 < d.fs.length := by rw [h.m3]; omega
 have hm3 : (Slt.wF (setF d 0 g) 0 true).fs.length = 3 := by show (List.set _ _ _).length = 3; rw [List.length_set]; exact h.m3
 have e0 := fD_crash (us := us) hm3 0 (by omega)
 have e1 := fD_crash (us := us) hm3 1 (by omega)
 have e2 := fD_crash (us := us) hm3 2 (by omega)
 rw [fD_wF, fD_set hi, hg] at e0
 rw [fD_wF, fD_other (by omega), h.f1, settle_fS] at e1
 rw [fD_wF, fD_other (by omega), h.f2, settle_fS] at e2
 exact ⟨crash_m3 hm3 us, e0, e1, e2, h.cur, hf, Nat.le_trans h.turn hm, h1, hl, h.l1, h.l2, h2, h3, h4⟩
theorem settle_put_some (x y : List UInt8) (n u : Nat) (hu : u ≤ y.length) : (⟨x, x ++ y, [.put y], n⟩ : FD).settle u = fS (x ++ y.take u) := by
 have h : someU x [.put y] u = x ++ y.take u := by
  show (St.put y).act x (min u y.length) = _
  rw [Nat.min_eq_left (by omega)]; rfl
 show (⟨someU x [.put y] u, someU x [.put y] u, [], (someU x [.put y] u).length⟩ : FD) = _
 rw [h]; rfl
theorem settle_cut_some (x : List UInt8) (g n u : Nat) : ∃ y, (y = x ∨ y = x.take g) ∧ (⟨x, x.take g, [.cut g], n⟩ : FD).settle u = fS y := by
 refine ⟨someU x [.cut g] u, ?_, rfl⟩
 show (if min u 1 = 0 then x else x.take g) = x ∨ (if min u 1 = 0 then x else x.take g) = x.take g
 split
 ·exact .inl rfl
 ·exact .inr rfl
def PutsTo (d : DD) (y1 y2 : List UInt8) (s : SS) (v : VS) (r : List UInt8) (m : Nat) : Prop :=
 (vputE d v r = 0 ∧ vputV d v r = pushV v r ∧ (vputD d v r).down = false ∧ ∃ x', Vd (vputD d v r) x' y1 y2 s (pushV v r) m ∧ (scan x').2 = x'.length) ∨
 (vputE d v r = 18 ∧ vputV d v r = v ∧ (vputD d v r).down = true ∧ ∀ us, ∃ x' v', Vd (crashD us (vputD d v r)) x' y1 y2 s v' m ∧ (v' = v ∨ v' = pushV v r)) ∨
 (vputE d v r = 17 ∧ vputV d v r = v ∧ vputD d v r = d ∧ d.room < usedL d.fs + 16 + r.length)
theorem vput_plain {d : DD} {x y1 y2 : List UInt8} {s : SS} {v : VS} {n : Nat} {r : List UInt8} (h : Vd d x y1 y2 s v n) (hs : (scan x).2 = x.length) (hd : d.down = false) (hn : n + (1 + r.length) ≤ 1100) (hr : 1 ≤ r.length) : PutsTo d y1 y2 s v r (n + (1 + r.length)) := by
 have hla := h.last
 have hle := h.len
 have hal := h.al
 have hok : vputOk v r := ⟨hr, by omega, by omega⟩
 have hbl : (vputR v r).length = 8 + r.length := by unfold vputR; rw [List.length_append, be_length]
 have hi : 0 < d.fs.length := by rw [h.m3]; omega
 obtain ⟨hx, hall⟩ := h.frames hs
 have hfp := fill_push (r := r) h.fill hr (by omega)
 have hfr : (frame (vputR v r)).length = 16 + r.length := by rw [frame_length]; omega
 have ax' : ∀ y ∈ (pushV v r).after, y.length ≤ 2000 := fun y hy => by
  rcases List.mem_append.1 hy with hy | hy
  ·exact h.ax y hy
  ·rw [List.mem_singleton] at hy; subst hy; omega
 have al' : (pushV v r).after.length ≤ n + (1 + r.length) := by show (v.after ++ [r]).length ≤ _; rw [List.length_append]; show v.after.length + 1 ≤ _; omega
 have la' : (pushV v r).last ≤ n + (1 + r.length) := by show v.last + 1 ≤ _; omega
 have hsc : scan (x ++ frame (vputR v r)) = ((scan x).1 ++ [vputR v r], (x ++ frame (vputR v r)).length) := by
  have e : x ++ frame (vputR v r) = ((scan x).1 ++ [vputR v r]).flatMap frame := by
   rw [List.flatMap_append, ← hx]; simp
  rw [e]
  exact scan_all _ (fun y hy => by
   rcases List.mem_append.1 hy with hy | hy
   ·exact hall y hy
   ·rw [List.mem_singleton] at hy; subst hy; omega)
 have hxl : (x ++ frame (vputR v r)).length ≤ 24 * (n + (1 + r.length)) := by rw [List.length_append]; omega
 unfold PutsTo vputE vputD vputV
 rw [if_pos hok, if_pos hok]
 rcases app3 (b := vputR v r) hi hd h.f0 (by omega) with ⟨e1, k, e2⟩ | ⟨e1, e2⟩ | ⟨e1, e2, e3⟩
 ·refine .inl ⟨e1, if_pos ⟨hok, e1⟩, by rw [e2]; rfl, x ++ frame (vputR v r), ?_, ?_⟩
  ·rw [e2]
   exact h.log (by omega) k false hxl (by rw [hsc]; exact hfp) la' h.bl al' ax'
  ·rw [hsc]
 ·have hne : ¬ (vputOk v r ∧ appE d 0 (vputR v r) = 0) := fun hh => by rw [e1] at hh; exact absurd hh.2 (by decide)
  refine .inr (.inl ⟨e1, if_neg hne, by rw [e2]; rfl, fun us => ?_⟩)
  rw [e2]
  have hu : crU us 0 ⟨x, x ++ frame (vputR v r), [.put (frame (vputR v r))], x.length + (frame (vputR v r)).length⟩ ≤ (frame (vputR v r)).length := crU_le (us := us) (k := 0) (f := ⟨x, x ++ frame (vputR v r), [.put (frame (vputR v r))], x.length + (frame (vputR v r)).length⟩)
  have hg := settle_put_some x (frame (vputR v r)) (x.length + (frame (vputR v r)).length) _ hu
  have hsm := scan_more (scan x).1 hall (vputR v r) (by omega) (by omega) _ hu
  rw [← hx] at hsm
  have hyl : (x ++ (frame (vputR v r)).take (crU us 0 ⟨x, x ++ frame (vputR v r), [.put (frame (vputR v r))], x.length + (frame (vputR v r)).length⟩)).length ≤ 24 * (n + (1 + r.length)) := by
   rw [List.length_append, List.length_take]; omega
  rcases hsm with e | e
  ·exact ⟨_, v, h.torn (by omega) us hg hyl (by rw [e]; exact h.fill) (by omega) h.bl (by omega) h.ax, .inl rfl⟩
  ·exact ⟨_, _, h.torn (by omega) us hg hyl (by rw [e]; exact hfp) la' h.bl al' ax', .inr rfl⟩
 ·have hne : ¬ (vputOk v r ∧ appE d 0 (vputR v r) = 0) := fun hh => by rw [e1] at hh; exact absurd hh.2 (by decide)
  exact .inr (.inr ⟨e1, if_neg hne, e2, by omega⟩)
theorem vput_no {d : DD} {v : VS} {r : List UInt8} (h : r.length = 0 ∨ d.down = true) : vputD d v r = d ∧ vputV d v r = v ∧ vputE d v r ≠ 0 := by
 unfold vputE vputD vputV
 by_cases hok : vputOk v r
 ·rcases h with h | h
  ·have := hok.1; omega
  ·have hbl : (vputR v r).length = 8 + r.length := by unfold vputR; rw [List.length_append, be_length]
   obtain ⟨e1, e2⟩ := app_down 0 (vputR v r) (by omega) h
   have hne : ¬ (vputOk v r ∧ appE d 0 (vputR v r) = 0) := fun hh => by rw [e1] at hh; exact absurd hh.2 (by decide)
   rw [if_pos hok, if_pos hok, if_neg hne, e1]
   exact ⟨e2, rfl, by decide⟩
 ·rw [if_neg hok, if_neg hok, if_neg (fun hh => hok hh.1)]
  exact ⟨rfl, rfl, by decide⟩
theorem vopen_plain {d : DD} {x y1 y2 : List UInt8} {s : SS} {v : VS} {n : Nat} (h : Vd d x y1 y2 s v n) (hd : d.down = false) (hu : usedL d.fs ≤ d.room) :
  vopF d = some v ∧ opnS d 1 2 = s ∧ ((opnE d 0 = 0 ∧ (opnD d 0).down = false ∧ (d.fuse = 0 → (opnD d 0).fuse = 0) ∧ ∃ x', Vd (opnD d 0) x' y1 y2 s v n ∧ (scan x').2 = x'.length) ∨ (opnE d 0 = 18 ∧ d.fuse ≠ 0 ∧ (opnD d 0).down = true ∧ ∀ us, ∃ x', Vd (crashD us (opnD d 0)) x' y1 y2 s v n)) := by
 have hi : 0 < d.fs.length := by rw [h.m3]; omega
 have hle := h.len
 have hsl := scan_le x
 have hst := scan_take x
 have hl2 : (x.take (scan x).2).length = (scan x).2 := by rw [List.length_take, Nat.min_eq_left hsl]
 have hf2 : fillV s (scan (x.take (scan x).2)).1 = some v := by rw [hst]; exact h.fill
 unfold vopF
 rw [h.told]
 unfold opnE opnD
 rw [if_neg (by rw [hd]; decide), if_neg (by rw [hd]; decide)]
 rcases mend3 hi hd h.f0 hu with ⟨e1, k, e2, e3⟩ | ⟨e1, e2, e3⟩
 ·rw [e2]
  refine ⟨?_, rfl, .inl ⟨e1, rfl, e3, x.take (scan x).2, ?_, by rw [hst, hl2]⟩⟩
  ·rw [fD_wF, fD_set hi]
   exact hf2
  ·exact h.log (Nat.le_refl _) k false (by omega) hf2 h.last h.bl h.al h.ax
 ·rw [e2]
  refine ⟨?_, rfl, .inr ⟨e1, e3, rfl, fun us => ?_⟩⟩
  ·rw [fD_wF, fD_set hi]
   exact hf2
  ·obtain ⟨y, hy, hg⟩ := settle_cut_some x (scan x).2 x.length (crU us 0 ⟨x, x.take (scan x).2, [.cut (scan x).2], x.length⟩)
   rcases hy with rfl | rfl
   ·exact ⟨_, h.torn (Nat.le_refl _) us hg hle h.fill h.last h.bl h.al h.ax⟩
   ·exact ⟨_, h.torn (Nat.le_refl _) us hg (by omega) hf2 h.last h.bl h.al h.ax⟩
theorem vd_new (room : Nat) : Vd (DD.new room) [] [] [] ⟨-1, 0, []⟩ VS.zero 0 ∧ (scan []).2 = ([] : List UInt8).length :=
 ⟨⟨rfl, rfl, rfl, rfl, ⟨.inl ⟨rfl, rfl, rfl⟩⟩, by kernel_rfl, Nat.le_refl _, Nat.le_refl _, Nat.zero_le _, Nat.zero_le _, Nat.zero_le _, Nat.zero_le _, Nat.le_refl _, fun _ h => (nomatch h)⟩, by decide +kernel⟩
end Go.Proofs.YtnejjfglkindjaaGreatDoor.Vlt
namespace Go.Proofs.YtnejjfglkindjaaGreatDoor.Vlt
open Go.RowKit Go.Mir Dk Rol Wr Slt
open Frm (frame scan frame_length)
def CurAt (nx : Nat) (y1 y2 z : List UInt8) (s : SS) : Prop := (nx = 1 ∧ Cur z y2 s) ∨ (nx = 2 ∧ Cur y1 z s)
theorem Vd.slot {d : DD} {x y1 y2 z : List UInt8} {s s' : SS} {v v' : VS} {n m nx : Nat} (h : Vd d x y1 y2 s v n) (hm : n ≤ m) (k : Nat) (b : Bool) (hc : CurAt nx y1 y2 z s') (hz : z.length ≤ 2000) (hf : fillV s' (scan x).1 = some v') (ht : s'.turn ≤ m) (h1 : v'.last ≤ m) (h2 : v'.body.length ≤ 2000) (h3 : v'.after.length ≤ m) (h4 : ∀ r ∈ v'.after, r.length ≤ 2000) :
  ∃ z1 z2, Vd (Slt.wF (setF d nx (fS z)) k b) x z1 z2 s' v' m := by
 have hle := h.len
 rcases hc with ⟨rfl, hc⟩ | ⟨rfl, hc⟩
 ·have hi : 1 < d.fs.length := by rw [h.m3]; omega
  exact ⟨z, y2, by show (List.set _ _ _).length = 3; rw [List.length_set]; exact h.m3, by rw [fD_wF, fD_other (by omega)]; exact h.f0, by rw [fD_wF]; exact fD_set hi _, by rw [fD_wF, fD_other (by omega)]; exact h.f2, hc, hf, ht, h1, by omega, hz, h.l2, h2, h3, h4⟩
 ·have hi : 2 < d.fs.length := by rw [h.m3]; omega
  exact ⟨y1, z, by show (List.set _ _ _).length = 3; rw [List.length_set]; exact h.m3, by rw [fD_wF, fD_other (by omega)]; exact h.f0, by rw [fD_wF, fD_other (by omega)]; exact h.f1, by rw [fD_wF]; exact fD_set hi _, hc, hf, ht, h1, by omega, h.l1, hz, h2, h3, h4⟩
theorem Vd.slotTorn {d : DD} {x y1 y2 z : List UInt8} {s s' : SS} {v v' : VS} {n m nx : Nat} {g : FD} (h : Vd d x y1 y2 s v n) (hm : n ≤ m) (us : List Int) (hg : g.settle (crU us nx g) = fS z) (hc : CurAt nx y1 y2 z s') (hz : z.length ≤ 2000) (hf : fillV s' (scan x).1 = some v') (ht : s'.turn ≤ m) (h1 : v'.last ≤ m) (h2 : v'.body.length ≤ 2000) (h3 : v'.after.length ≤ m) (h4 : ∀ r ∈ v'.after, r.length ≤ 2000) :
  ∃ z1 z2, Vd (crashD us (Slt.wF (setF d nx g) 0 true)) x z1 z2 s' v' m := by
 have hle := h.len
 have hm3 : (Slt.wF (setF d nx g) 0 true).fs.length = 3 := by show (List.set _ _ _).length = 3; rw [List.length_set]; exact h.m3
 have e0 := fD_crash (us := us) hm3 0 (by omega)
 have e1 := fD_crash (us := us) hm3 1 (by omega)
 have e2 := fD_crash (us := us) hm3 2 (by omega)
 rcases hc with ⟨rfl, hc⟩ | ⟨rfl, hc⟩
 ·have hi : 1 < d.fs.length := by rw [h.m3]; omega
  rw [fD_wF, fD_other (by omega), h.f0, settle_fS] at e0
  rw [fD_wF, fD_set hi, hg] at e1
  rw [fD_wF, fD_other (by omega), h.f2, settle_fS] at e2
  exact ⟨z, y2, crash_m3 hm3 us, e0, e1, e2, hc, hf, ht, h1, by omega, hz, h.l2, h2, h3, h4⟩
 ·have hi : 2 < d.fs.length := by rw [h.m3]; omega
  rw [fD_wF, fD_other (by omega), h.f0, settle_fS] at e0
  rw [fD_wF, fD_other (by omega), h.f1, settle_fS] at e1
  rw [fD_wF, fD_set hi, hg] at e2
  exact ⟨y1, z, crash_m3 hm3 us, e0, e1, e2, hc, hf, ht, h1, by omega, h.l1, hz, h2, h3, h4⟩
def CompsTo (d : DD) (x : List UInt8) (s : SS) (v : VS) (c : List UInt8) (m : Nat) : Prop :=
 (vcE d s v c = 0 ∧ vcV d s v c = compV v c ∧ (vcD d s v c).down = false ∧ ∃ x' z1 z2, Vd (vcD d s v c) x' z1 z2 (vcS d s v c) (compV v c) m ∧ (scan x').2 = x'.length) ∨
 (vcE d s v c = 18 ∧ (vcV d s v c = v ∨ vcV d s v c = compV v c) ∧ (vcS d s v c).turn ≤ m ∧ (vcD d s v c).down = true ∧ ∀ us, ∃ x' z1 z2 s' v', Vd (crashD us (vcD d s v c)) x' z1 z2 s' v' m ∧ (v' = v ∨ v' = compV v c)) ∨
 (vcE d s v c = 17 ∧ vcV d s v c = v ∧ vcS d s v c = s ∧ (vcD d s v c).down = false ∧ (∃ z1 z2, Vd (vcD d s v c) x z1 z2 s v m) ∧ d.room < usedL d.fs + 24 + c.length)
theorem vcomp_plain {d : DD} {x y1 y2 : List UInt8} {s : SS} {v : VS} {n : Nat} {c : List UInt8} (h : Vd d x y1 y2 s v n) (hs : (scan x).2 = x.length) (hd : d.down = false) (hu : usedL d.fs ≤ d.room) (hn : n + (1 + c.length) ≤ 1100) : CompsTo d x s v c (n + (1 + c.length)) := by
 have hla := h.last
 have hle := h.len
 have hal := h.al
 have htn := h.turn
 have hl1 := h.l1
 have hl2 := h.l2
 have hcl : (vcR v c).length = 8 + c.length := by unfold vcR; rw [List.length_append, be_length]
 have hw := wrapB_len s (vcR v c)
 have hft : fits s (vcR v c) = true := by unfold fits; rw [decide_eq_true (by omega), decide_eq_true (by omega)]; rfl
 have h6 : c.length ≤ 60000 := by omega
 have hfc : ∀ f, fillV ⟨f, s.turn + 1, vcR v c⟩ (scan x).1 = some (compV v c) := fun f => fill_comp (fill_all h.fill) (by omega)
 have hfc0 : ∀ f, fillV ⟨f, s.turn + 1, vcR v c⟩ (scan []).1 = some (compV v c) := fun f => by
  have e : (scan []).1 = [] := by decide +kernel
  rw [e]
  exact fill_comp (fun b hb => (nomatch hb)) (by omega)
 have hcla : (compV v c).last ≤ n + (1 + c.length) := by show v.last ≤ _; omega
 have hcbl : (compV v c).body.length ≤ 2000 := by show c.length ≤ _; omega
 have hcal : (compV v c).after.length ≤ n + (1 + c.length) := Nat.zero_le _
 have hcax : ∀ r ∈ (compV v c).after, r.length ≤ 2000 := fun r hr => (nomatch hr)
 have hi : nxt s 1 2 < d.fs.length := by rcases nxt12 s with e | e <;> rw [e, h.m3] <;> omega
 have hfi : fD d (nxt s 1 2) = fS (if nxt s 1 2 = 1 then y1 else y2) := by
  rcases nxt12 s with e | e
  ·rw [e]; exact h.f1
  ·rw [e]; exact h.f2
 have hold : CurAt (nxt s 1 2) y1 y2 (if nxt s 1 2 = 1 then y1 else y2) s := by
  rcases nxt12 s with e | e
  ·rw [e]; exact .inl ⟨rfl, h.cur⟩
  ·rw [e]; exact .inr ⟨rfl, h.cur⟩
 have hyl : (if nxt s 1 2 = 1 then y1 else y2).length ≤ 2000 := by split <;> omega
 have hnil : CurAt (nxt s 1 2) y1 y2 [] s := h.cur.other [] rfl
 have hnew : CurAt (nxt s 1 2) y1 y2 (wrapB s (vcR v c)) ⟨(nxt s 1 2 : Int), s.turn + 1, vcR v c⟩ := by
  rcases h.cur.next (vcR v c) (by omega) (by omega) with ⟨e, q⟩ | ⟨e, q⟩
  ·rw [e]; exact .inl ⟨rfl, q⟩
  ·rw [e]; exact .inr ⟨rfl, q⟩
 have hz0 : ∀ k, k < (wrapB s (vcR v c)).length → (loadP ((wrapB s (vcR v c)).take k)).1 = 0 := fun k hk => by
  have := load_torn (s.turn + 1) (vcR v c) (by omega) k (by omega)
  unfold wrapB
  rw [this]
 generalize hY : (if nxt s 1 2 = 1 then y1 else y2) = Y at *
 have hpE : putSE d s 1 2 (vcR v c) = layE (nxt s 1 2) (acts d (nxt s 1 2) (wrapB s (vcR v c))) d := if_pos hft
 have hpD : putSD d s 1 2 (vcR v c) = layD (nxt s 1 2) (acts d (nxt s 1 2) (wrapB s (vcR v c))) d := if_pos hft
 unfold CompsTo vcE vcD vcV vcS
 rw [if_pos h6, if_pos h6, if_pos h6]
 rcases lay3 (fr := wrapB s (vcR v c)) hi hd hfi hu with ⟨k, e1, e2, hr⟩ | ⟨e1, g, hg, e2⟩ | ⟨e1, ⟨k, e2⟩, e3⟩
 ·have hpS : putSS d s 1 2 (vcR v c) = ⟨(nxt s 1 2 : Int), s.turn + 1, vcR v c⟩ := if_pos ⟨hft, e1⟩
  rw [hpS, hpE, hpD, e1, e2, if_pos rfl, if_pos rfl, if_pos ⟨h6, rfl⟩]
  obtain ⟨z1, z2, hV⟩ := h.slot (m := n + (1 + c.length)) (by omega) k false hnew (by omega) (hfc _) (by show s.turn + 1 ≤ _; omega) hcla hcbl hcal hcax
  have hi0 : 0 < (Slt.wF (setF d (nxt s 1 2) (fS (wrapB s (vcR v c)))) k false).fs.length := by rw [hV.m3]; omega
  have hus := used_setF hi (fS (wrapB s (vcR v c)))
  rw [hfi] at hus
  have hus : usedL (setF d (nxt s 1 2) (fS (wrapB s (vcR v c)))).fs + Y.length = usedL d.fs + (wrapB s (vcR v c)).length := hus
  rcases clr3 (g := 0) hi0 rfl hV.f0 (Nat.zero_le _) (by show usedL (setF d (nxt s 1 2) (fS (wrapB s (vcR v c)))).fs ≤ d.room; omega) with ⟨c1, c2⟩ | ⟨c1, c2, _⟩
  ·rw [c1, c2]
   refine .inl ⟨rfl, rfl, rfl, x.take 0, z1, z2, ?_, by rw [List.take_zero]; decide +kernel⟩
   exact hV.log (Nat.le_refl _) _ false (by rw [List.take_zero]; exact Nat.zero_le _) (by rw [List.take_zero]; exact hfc0 _) hcla hcbl hcal hcax
  ·rw [c1, c2]
   refine .inr (.inl ⟨rfl, .inr rfl, (show s.turn + 1 ≤ _ by omega), rfl, fun us => ?_⟩)
   obtain ⟨y, hy, hgy⟩ := settle_cut_some x 0 x.length (crU us 0 ⟨x, x.take 0, [.cut 0], x.length⟩)
   rcases hy with rfl | rfl
   ·exact ⟨_, z1, z2, _, _, hV.torn (Nat.le_refl _) us hgy (by omega) (hfc _) hcla hcbl hcal hcax, .inr rfl⟩
   ·exact ⟨_, z1, z2, _, _, hV.torn (Nat.le_refl _) us hgy (by rw [List.take_zero]; exact Nat.zero_le _) (by rw [List.take_zero]; exact hfc0 _) hcla hcbl hcal hcax, .inr rfl⟩
 ·have hne : ¬ (18 : Int) = 0 := by decide
  have hpS : putSS d s 1 2 (vcR v c) = s := if_neg (fun hh => by rw [e1] at hh; exact hne hh.2)
  rw [hpS, hpE, hpD, e1, e2, if_neg hne, if_neg hne, if_neg (fun hh => hne hh.2)]
  refine .inr (.inl ⟨rfl, .inl rfl, (by omega), rfl, fun us => ?_⟩)
  obtain ⟨z, hz, hc⟩ := torn_settle hg _ (crU_le (us := us) (k := nxt s 1 2) (f := g))
  rcases hc with rfl | rfl | ⟨k, hk, rfl⟩
  ·obtain ⟨z1, z2, hV⟩ := h.slotTorn (m := n + (1 + c.length)) (by omega) us hz hold hyl h.fill (by omega) (by omega) h.bl (by omega) h.ax
   exact ⟨_, _, _, _, _, hV, .inl rfl⟩
  ·obtain ⟨z1, z2, hV⟩ := h.slotTorn (m := n + (1 + c.length)) (by omega) us hz hnil (Nat.zero_le _) h.fill (by omega) (by omega) h.bl (by omega) h.ax
   exact ⟨_, _, _, _, _, hV, .inl rfl⟩
  ·have hlk : ((wrapB s (vcR v c)).take k).length ≤ 2000 := by rw [List.length_take]; omega
   by_cases hkl : k < (wrapB s (vcR v c)).length
   ·obtain ⟨z1, z2, hV⟩ := h.slotTorn (m := n + (1 + c.length)) (by omega) us hz (h.cur.other _ (hz0 k hkl)) hlk h.fill (by omega) (by omega) h.bl (by omega) h.ax
    exact ⟨_, _, _, _, _, hV, .inl rfl⟩
   ·have hall : (wrapB s (vcR v c)).take k = wrapB s (vcR v c) := List.take_of_length_le (by omega)
    rw [hall] at hz hlk
    obtain ⟨z1, z2, hV⟩ := h.slotTorn (m := n + (1 + c.length)) (by omega) us hz hnew hlk (hfc _) (by show s.turn + 1 ≤ _; omega) hcla hcbl hcal hcax
    exact ⟨_, _, _, _, _, hV, .inr rfl⟩
 ·have hne : ¬ (17 : Int) = 0 := by decide
  have hpS : putSS d s 1 2 (vcR v c) = s := if_neg (fun hh => by rw [e1] at hh; exact hne hh.2)
  rw [hpS, hpE, hpD, e1, e2, if_neg hne, if_neg hne, if_neg (fun hh => hne hh.2)]
  obtain ⟨z1, z2, hV⟩ := h.slot (m := n + (1 + c.length)) (by omega) k false hnil (Nat.zero_le _) h.fill (by omega) (by omega) h.bl (by omega) h.ax
  exact .inr (.inr ⟨rfl, rfl, rfl, rfl, ⟨z1, z2, hV⟩, by omega⟩)
theorem vcomp_down {d : DD} {s : SS} {v : VS} {c : List UInt8} (h1 : d.down = true) (hc : c.length ≤ 60000) (ht : s.turn + 1 < 18446744073709551616) : vcD d s v c = d ∧ vcV d s v c = v ∧ vcS d s v c = s ∧ vcE d s v c = 18 := by
 have hcl : (vcR v c).length = 8 + c.length := by unfold vcR; rw [List.length_append, be_length]
 have hf : fits s (vcR v c) = true := by unfold fits; rw [decide_eq_true (by omega), decide_eq_true ht]; rfl
 obtain ⟨e1, e2⟩ := lay_dn (i := nxt s 1 2) (fr := wrapB s (vcR v c)) h1
 have hpE : putSE d s 1 2 (vcR v c) = 18 := by unfold putSE; rw [if_pos hf]; exact e1
 have hpD : putSD d s 1 2 (vcR v c) = d := by unfold putSD; rw [if_pos hf]; exact e2
 have hne : ¬ (18 : Int) = 0 := by decide
 have hpS : putSS d s 1 2 (vcR v c) = s := if_neg (fun hh => by rw [e1] at hh; exact hne hh.2)
 unfold vcE vcD vcV vcS
 rw [hpE, hpD, hpS, if_pos hc, if_pos hc, if_pos hc, if_neg hne, if_neg hne, if_neg (fun hh => hne hh.2)]
 exact ⟨rfl, rfl, rfl, rfl⟩
end Go.Proofs.YtnejjfglkindjaaGreatDoor.Vlt
namespace Go.Proofs.YtnejjfglkindjaaGreatDoor.Vlt
open Go.RowKit Go.Mir Dk Rol Wr Slt
open Frm (frame scan frame_length)
theorem Vd.few {d : DD} {x y1 y2 : List UInt8} {s : SS} {v : VS} {n : Nat} (h : Vd d x y1 y2 s v n) : ∀ j, (fD d j).steps.length ≤ 0
 | 0 => by rw [h.f0]; exact Nat.le_refl _
 | 1 => by rw [h.f1]; exact Nat.le_refl _
 | 2 => by rw [h.f2]; exact Nat.le_refl _
 | j + 3 => by
  have : fD d (j + 3) = FD.none := by
   unfold fD
   rw [List.getElem?_eq_none (by rw [h.m3]; omega)]; rfl
  rw [this]; exact Nat.le_refl _
def Live (d : DD) (s : SS) (v : VS) (n : Nat) : Prop := d.down = false ∧ ∃ x y1 y2, Vd d x y1 y2 s v n ∧ (scan x).2 = x.length
def Leaves (d : DD) (P : VS → Prop) (n : Nat) : Prop := ∀ us, ∃ x y1 y2 s v, Vd (crashD us d) x y1 y2 s v n ∧ P v
theorem Live.leaves {d : DD} {s : SS} {v : VS} {n : Nat} (h : Live d s v n) {P : VS → Prop} (hp : P v) : Leaves d P n := fun us => by
 obtain ⟨_, x, y1, y2, hv, _⟩ := h
 exact ⟨x, y1, y2, s, v, hv.crash us, hp⟩
theorem Live.few {d : DD} {s : SS} {v : VS} {n : Nat} (h : Live d s v n) : ∀ j, (fD d j).steps.length ≤ 0 := by
 obtain ⟨_, x, y1, y2, hv, _⟩ := h
 exact hv.few
theorem Live.more {d : DD} {s : SS} {v : VS} {n m : Nat} (h : Live d s v n) (hm : n ≤ m) : Live d s v m := by
 obtain ⟨a, x, y1, y2, hv, hs⟩ := h
 exact ⟨a, x, y1, y2, hv.more hm, hs⟩
theorem Leaves.imp {d : DD} {P Q : VS → Prop} {n : Nat} (h : Leaves d P n) (hq : ∀ v, P v → Q v) : Leaves d Q n := fun us => by
 obtain ⟨x, y1, y2, s, v, a, b⟩ := h us
 exact ⟨x, y1, y2, s, v, a, hq v b⟩
theorem left_open {d : DD} {x y1 y2 : List UInt8} {s : SS} {v : VS} {n : Nat} (h : Vd d x y1 y2 s v n) (hd : d.down = false) (hu : usedL d.fs ≤ d.room) :
  vopF d = some v ∧ opnS d 1 2 = s ∧ ((opnE d 0 = 0 ∧ Live (opnD d 0) s v n ∧ (d.fuse = 0 → (opnD d 0).fuse = 0)) ∨ (opnE d 0 = 18 ∧ d.fuse ≠ 0 ∧ ∀ us, ∃ x', Vd (crashD us (opnD d 0)) x' y1 y2 s v n)) := by
 obtain ⟨a, b, c⟩ := vopen_plain h hd hu
 refine ⟨a, b, ?_⟩
 rcases c with ⟨c1, c2, c3, x', c4, c5⟩ | ⟨c1, c2, _, c4⟩
 ·exact .inl ⟨c1, ⟨c2, x', y1, y2, c4, c5⟩, c3⟩
 ·exact .inr ⟨c1, c2, c4⟩
end Go.Proofs.YtnejjfglkindjaaGreatDoor.Vlt
namespace Go.Proofs.YtnejjfglkindjaaGreatDoor.Vlt
open Go.RowKit Go.Mir Dk Rol Wr Slt
open Frm (frame scan)
theorem fewA {d : DD} {N : Nat} (h : FewD d N) (i : Nat) (b : List UInt8) : FewD (appD d i b) (N + 1) := by
 unfold appD
 split
 ·exact h.mono (by omega)
 ·split
  ·exact (h.doD (fewfd h)).syncD
  ·exact h.doD (fewfd h)
theorem fewC {d : DD} {N : Nat} (h : FewD d N) (i m : Nat) : FewD (clrD d i m) (N + 1) := by
 unfold clrD
 split
 ·exact (h.doD (fewfd h)).syncD
 ·exact h.doD (fewfd h)
theorem few_of {d : DD} {N : Nat} (h : ∀ j, (fD d j).steps.length ≤ N) : FewD d N := fun f hf => by
 obtain ⟨j, hj⟩ := List.getElem?_of_mem hf
 have := h j
 unfold fD at this
 rw [hj] at this
 exact this
structure VI (d : DD) (s : SS) (v : VS) (n N : Nat) : Prop where
 few : FewD d N
 st : Live d s v n ∨ (d.down = true ∧ Leaves d (fun _ => True) n)
 turn : s.turn ≤ n
 last : v.last ≤ n
 bl : v.body.length ≤ 2000
 al : v.after.length ≤ n
 ax : ∀ r ∈ v.after, r.length ≤ 2000
theorem VI.of_live {d : DD} {s : SS} {v : VS} {n N : Nat} (h : Live d s v n) (hf : FewD d N) : VI d s v n N := by
 obtain ⟨a, x, y1, y2, hv, hs⟩ := h
 exact ⟨hf, .inl ⟨a, x, y1, y2, hv, hs⟩, hv.turn, hv.last, hv.bl, hv.al, hv.ax⟩
theorem Leaves.more {d : DD} {P : VS → Prop} {n m : Nat} (h : Leaves d P n) (hm : n ≤ m) : Leaves d P m := fun us => by
 obtain ⟨x, y1, y2, s, v, hv, hp⟩ := h us
 exact ⟨x, y1, y2, s, v, hv.more hm, hp⟩
theorem VI.more {d : DD} {s : SS} {v : VS} {n m N M : Nat} (h : VI d s v n N) (hm : n ≤ m) (hM : N ≤ M) : VI d s v m M :=
 ⟨h.few.mono hM, h.st.imp (fun h => h.more hm) (fun h => ⟨h.1, h.2.more hm⟩), Nat.le_trans h.turn hm, Nat.le_trans h.last hm, h.bl, Nat.le_trans h.al hm, h.ax⟩
theorem vi_put {d : DD} {s : SS} {v : VS} {n N : Nat} {r : List UInt8} (h : VI d s v n N) (hn : n + (1 + r.length) ≤ 1100) : VI (vputD d v r) s (vputV d v r) (n + (1 + r.length)) (N + 1) := by
 have hm := h.more (m := n + (1 + r.length)) (M := N + 1) (by omega) (by omega)
 have hfw : FewD (vputD d v r) (N + 1) := by
  unfold vputD
  split
  ·exact fewA h.few _ _
  ·exact h.few.mono (by omega)
 by_cases hno : r.length = 0 ∨ d.down = true
 ·obtain ⟨e1, e2, _⟩ := vput_no (v := v) hno
  rw [e1, e2]
  exact hm
 ·have h1 : 1 ≤ r.length := by omega
  have h2 : d.down = false := by
   cases hd : d.down with
   | false => rfl
   | true => exact absurd (.inr hd) hno
  rcases h.st with ⟨_, x, y1, y2, hv, hs⟩ | ⟨hd, _⟩
  ·rcases vput_plain hv hs h2 hn h1 with ⟨_, e2, e3, x', e4, e5⟩ | ⟨_, e2, e3, e4⟩ | ⟨_, e2, e3, _⟩
   ·rw [e2]
    exact VI.of_live ⟨e3, x', y1, y2, e4, e5⟩ hfw
   ·rw [e2]
    exact ⟨hfw, .inr ⟨e3, fun us => by
     obtain ⟨x', v', p, _⟩ := e4 us
     exact ⟨x', y1, y2, s, v', p, trivial⟩⟩, hm.turn, hm.last, hm.bl, hm.al, hm.ax⟩
   ·rw [e2, e3]
    exact hm
  ·rw [hd] at h2; cases h2
theorem vi_comp {d : DD} {s : SS} {v : VS} {n N : Nat} {c : List UInt8} (h : VI d s v n N) (hu : usedL d.fs ≤ d.room) (hn : n + (1 + c.length) ≤ 1100) : VI (vcD d s v c) (vcS d s v c) (vcV d s v c) (n + (1 + c.length)) (N + 5) := by
 have hm := h.more (m := n + (1 + c.length)) (M := N + 5) (by omega) (by omega)
 have hfw : FewD (vcD d s v c) (N + 5) := by
  unfold vcD
  split
  ·split
   ·exact fewC (few_putSD h.few) _ _
   ·exact (few_putSD h.few).mono (by omega)
  ·exact h.few.mono (by omega)
 rcases h.st with ⟨hd, x, y1, y2, hv, hs⟩ | ⟨hd, hl⟩
 ·rcases vcomp_plain hv hs hd hu hn with ⟨_, e2, e3, x', z1, z2, e4, e5⟩ | ⟨_, e2, e3, e4, e5⟩ | ⟨_, e2, e3, e4, ⟨z1, z2, e5⟩, _⟩
  ·rw [e2]
   exact VI.of_live ⟨e3, x', z1, z2, e4, e5⟩ hfw
  ·have key : ∀ v', (v' = v ∨ v' = compV v c) → v'.last ≤ n + (1 + c.length) ∧ v'.body.length ≤ 2000 ∧ v'.after.length ≤ n + (1 + c.length) ∧ ∀ r ∈ v'.after, r.length ≤ 2000 := fun v' hv' => by
    rcases hv' with rfl | rfl
    ·exact ⟨hm.last, hm.bl, hm.al, hm.ax⟩
    ·exact ⟨hm.last, by show c.length ≤ _; omega, Nat.zero_le _, fun r hr => by cases hr⟩
   obtain ⟨k1, k2, k3, k4⟩ := key _ e2
   exact ⟨hfw, .inr ⟨e4, fun us => by
    obtain ⟨x', z1, z2, s', v', p, _⟩ := e5 us
    exact ⟨x', z1, z2, s', v', p, trivial⟩⟩, e3, k1, k2, k3, k4⟩
  ·rw [e2, e3]
   exact VI.of_live ⟨e4, x, z1, z2, e5, hs⟩ hfw
 ·obtain ⟨e1, e2, e3, _⟩ := vcomp_down (s := s) (v := v) (c := c) hd (by omega) (by have := h.turn; omega)
  rw [e1, e2, e3]
  exact hm
theorem vi_arm {d : DD} {s : SS} {v : VS} {n N : Nat} (h : VI d s v n N) (k : Nat) : VI ⟨d.fs, d.room, k, d.down⟩ s v n N := by
 refine ⟨h.few, h.st.imp (fun hl => ?_) (fun hl => ⟨hl.1, hl.2⟩), h.turn, h.last, h.bl, h.al, h.ax⟩
 obtain ⟨a, x, y1, y2, hv, hs⟩ := hl
 exact ⟨a, x, y1, y2, hv.wF k d.down, hs⟩
theorem vi_crash {d : DD} {s : SS} {v : VS} {n N : Nat} (h : VI d s v n N) (us : List Int) (hu : usedL (crashD us d).fs ≤ (crashD us d).room) :
  ∃ v', vopF (crashD us d) = some v' ∧ opnE (crashD us d) 0 = 0 ∧ VI (opnD (crashD us d) 0) (opnS (crashD us d) 1 2) v' n 0 := by
 have hl : Leaves d (fun _ => True) n := by
  rcases h.st with hl | ⟨_, hl⟩
  ·exact hl.leaves trivial
  ·exact hl
 obtain ⟨x, y1, y2, s', v', hv, _⟩ := hl us
 obtain ⟨a, b, c⟩ := left_open hv rfl hu
 rcases c with ⟨c1, c2, _⟩ | ⟨_, c2, _⟩
 ·rw [b]
  exact ⟨v', a, c1, VI.of_live c2 (few_of c2.few)⟩
 ·exact absurd rfl c2
theorem vi_new (R : Nat) (hu : usedL (DD.new R).fs ≤ (DD.new R).room) : vopF (DD.new R) = some VS.zero ∧ opnE (DD.new R) 0 = 0 ∧ VI (opnD (DD.new R) 0) (opnS (DD.new R) 1 2) VS.zero 0 0 := by
 obtain ⟨a, b, c⟩ := left_open (vd_new R).1 rfl hu
 rcases c with ⟨c1, c2, _⟩ | ⟨_, c2, _⟩
 ·rw [b]
  exact ⟨a, c1, VI.of_live c2 (few_of c2.few)⟩
 ·exact absurd rfl c2
end Go.Proofs.YtnejjfglkindjaaGreatDoor.Vlt
namespace Go.Proofs.YtnejjfglkindjaaGreatDoor.Vlt
open Go.RowKit Go.Mir Go.Mir.Parts Dk Rol Wr Slt Cut Rk
open Frm (frame scan)
theorem case22_cells {w : World} {b : Nat} {room : Int} {p : Option Addr} {n c : Nat} {t : TypeId} {fr : Nat × Nat} (h : w.heap[b]? = some (.cells (caseA22 room p n c) t fr)) : w.cell? ⟨b, 0, none⟩ = some (.int .i64 room) ∧ w.cell? ⟨b, 1, none⟩ = some (.slice p n c) :=
 ⟨by rw [cell_of_row _ _ _ _ _ _ h]; rfl, by rw [cell_of_row _ _ _ _ _ _ h]; rfl⟩
theorem kr_of_kv {base : Nat} {a b : World} (h : KV base a b) : KR 0 a b := h.imp (fun k _ ⟨_, M, t, fr, hm, ht⟩ => ⟨M, t, fr, hm, by
 rcases ht with rfl | rfl | rfl | rfl | rfl
 ·exact ⟨by decide, by decide⟩
 ·exact ⟨by decide, by decide⟩
 ·exact ⟨by decide, by decide⟩
 ·exact ⟨by decide, by decide⟩
 ·exact ⟨by decide, by decide⟩⟩)
theorem ref_kept {base : Nat} {S : Nat → Prop} {wr y : World} {T : List RF} {d : DD} {s : SS} {ps : Option Addr} {cs : Nat} {v : VS} {pb : Option Addr} {cb : Nat} {pa : Option Addr} {ca : Nat} (h : RVR wr T d s ps cs v pb cb pa ca) (hk : KV base wr y) (ht : Turns S wr y) (hn : ∀ k, (Value.slice pa v.after.length ca).ownBlock = some k → ¬ S k) : RVR y T d s ps cs v pb cb pa ca :=
 ⟨h.rd.step (kr_of_kv hk), h.sb.step (kr_of_kv hk), h.vb.step (kr_of_kv hk), h.af.turn (kr_of_kv hk) ht hn⟩
theorem XW.off {S : Nat → Prop} {base rb sb db vb : Nat} {d : DD} {s : SS} {v : VS} {pb pa : Option Addr} {cb ca : Nat} {w w' : World} (h : XW base rb sb db vb d s v pb cb pa ca w) (ht : Turns S w w') (hS : ∀ k M t fr, S k → w.heap[k]? = some (.cells M t fr) → t = 76) : XW base rb sb db vb d s v pb cb pa ca w' := by
 have hty : ∀ k M t fr, S k → w.heap[k]? = some (.cells M t fr) → t ≠ 105 ∧ t ≠ 165 ∧ t ≠ 133 ∧ t ≠ 5 ∧ t ≠ 23 ∧ t ≠ 136 ∧ t ≠ 33 ∧ t ≠ 22 := fun k M t fr hk hm => by
  have := hS k M t fr hk hm
  subst this
  exact ⟨by decide, by decide, by decide, by decide, by decide, by decide, by decide, by decide⟩
 refine ⟨sx_turn h.sx ht (fun k M t fr hk hm => ?_), ht.keep h.rol (fun hk => ?_), h.low, h.last, ht.keep h.row (fun hk => ?_), h.rd.touch ht (fun k M fr hm hk => ?_), lsO_turn h.ls ht (fun k M t fr hk hm => ?_)⟩
 ·obtain ⟨a, b, c, d, e, _⟩ := hty k M t fr hk hm
  exact ⟨a, b, c, d, e⟩
 ·exact (hty _ _ _ _ hk h.rol).2.2.2.2.2.1 rfl
 ·exact (hty _ _ _ _ hk h.row).2.2.2.2.2.2.1 rfl
 ·exact (hty _ _ _ _ hk hm).2.2.2.1 rfl
 ·obtain ⟨_, _, _, d, _, _, _, e⟩ := hty k M t fr hk hm
  exact ⟨e, d⟩
structure LV (base rb sb db vb rg : Nat) (d : DD) (s : SS) (v : VS) (pb : Option Addr) (cb : Nat) (pa : Option Addr) (ca : Nat) (T : List RF) (rs : Option Addr) (rk : Nat) (qb : Option Addr) (kb : Nat) (qa : Option Addr) (ka : Nat) (W wr : World) : Prop where
 xw : XW base rb sb db vb d s v pb cb pa ca wr
 row : wr.heap[rg]? = some (.cells (rvA T d s rs rk v qb kb qa ka) 76 (0, 0))
 rv : RVR wr T d s rs rk v qb kb qa ka
 ne : ∀ k, (Value.slice pa v.after.length ca).ownBlock = some k → ¬ (Value.slice qa v.after.length ka).ownBlock = some k
 low : Below base W wr
 at_ : base ≤ rg
variable {base rb sb db vb rg : Nat} {d d' : DD} {s s' : SS} {v v' : VS} {pb : Option Addr} {cb : Nat} {pa pa' : Option Addr} {ca ca' : Nat} {T T' : List RF} {rs rs' : Option Addr} {rk rk' : Nat} {qb qb' : Option Addr} {kb kb' : Nat} {qa qa' : Option Addr} {ka ka' : Nat} {W wr wA wB : World} {pb' : Option Addr} {cb' : Nat}
theorem LV.next (h : LV base rb sb db vb rg d s v pb cb pa ca T rs rk qb kb qa ka W wr) (hb : Below wr.heap.size wr wA) : LV base rb sb db vb rg d s v pb cb pa ca T rs rk qb kb qa ka W wA :=
 ⟨h.xw.below hb, Below.keepOld hb h.row, h.rv.below hb, h.ne, h.low.trans (hb.mono (Nat.le_trans h.xw.sx.dx.1 (Nat.le_refl _))), h.at_⟩
theorem LV.store {M : Array Value} (hx : XW base rb sb db vb d s v pb cb pa ca wA) (hr : wA.heap[rg]? = some (.cells M 76 (0, 0))) (hv : RVR wA T d s rs rk v qb kb qa ka) (hn : ∀ k, (Value.slice pa v.after.length ca).ownBlock = some k → ¬ (Value.slice qa v.after.length ka).ownBlock = some k) (hl : Below base W wA) (ha : base ≤ rg) :
  LV base rb sb db vb rg d s v pb cb pa ca T rs rk qb kb qa ka W (wA.setRow rg (rvA T d s rs rk v qb kb qa ka)) := by
 have ht := turns_setRow wA rg (rvA T d s rs rk v qb kb qa ka)
 refine ⟨hx.off ht (fun k M' t fr hk hm => ?_), setRow_heap _ _ _ _ _ _ hr, box_off hv hr, hn, below_setRow hl ha _, ha⟩
 have hk : k = rg := hk
 subst hk
 rw [hr] at hm
 injection hm with e1
 injection e1 with _ e2
 exact e2.symm
theorem apart_put (h : LV base rb sb db vb rg d s v pb cb pa ca T rs rk qb kb qa ka W wr) (_hsz : wr.heap.size ≤ wA.heap.size) (hx : XW base rb sb db vb d' s' v' pb' cb' pa' ca' wA)
  (h1 : ∀ k, (Value.slice pa' v'.after.length ca').ownBlock = some k → (Value.slice pa v.after.length ca).ownBlock = some k ∨ wr.heap.size ≤ k)
  (h2 : ∀ k, (Value.slice qa' v'.after.length ka').ownBlock = some k → (Value.slice qa v.after.length ka).ownBlock = some k ∨ wA.heap.size ≤ k) :
  ∀ k, (Value.slice pa' v'.after.length ca').ownBlock = some k → ¬ (Value.slice qa' v'.after.length ka').ownBlock = some k := fun k a b => by
 have hlt : k < wA.heap.size := by
  obtain ⟨_, z, _⟩ := hx.ls.all
  exact (z.lt k a).2
 rcases h2 k b with b | b
 ·rcases h1 k a with a | a
  ·exact h.ne k a b
  ·have := (h.rv.af.ty b).1
   omega
 ·omega
end Go.Proofs.YtnejjfglkindjaaGreatDoor.Vlt
namespace Go.Proofs.YtnejjfglkindjaaGreatDoor.Vlt
open Go.RowKit Go.Mir Go.Mir.Parts Dk Rol Wr Slt Cut Rk
open Frm (frame scan)
def T0V : List RF := [⟨none, 0, none, 0⟩, ⟨none, 0, none, 0⟩, ⟨none, 0, none, 0⟩]
theorem rb_noneV (w : World) : Rb 0 w ⟨none, 0, none, 0⟩ FD.none := ⟨[], fun _y _ =>
 ⟨Cut.own_bs (World.ownsRow_nil _ 0 _ _), ⟨Sl.nil _ _, fun _ h => (nomatch h), rfl⟩, fun _i _r _s h => (nomatch h), ⟨rfl, trivial, fun _u => Nat.le_refl _, Nat.le_refl _, fun _s hs => (nomatch hs)⟩, Nat.zero_le _⟩⟩
theorem rdb_newV (w : World) (room : Nat) (h : 1 ≤ room ∧ room ≤ 65536) : RDB w T0V (DD.new room) := by
 refine ⟨rfl, rfl, fun i t f a b => ?_, h, Nat.zero_le _, Nat.zero_le _⟩
 match i, a, b with
 | 0, a, b => cases a; cases b; exact ⟨rb_noneV w, nd_none⟩
 | 1, a, b => cases a; cases b; exact ⟨rb_noneV w, nd_none⟩
 | 2, a, b => cases a; cases b; exact ⟨rb_noneV w, nd_none⟩
 | i + 3, a, b => cases a
theorem built_rdV (room : Nat) : Tryz.prog.built 65 [(1, .int .i64 (room : Int))] = some (rdA T0V (DD.new room)) := by kernel_rfl
theorem LV.disk {base rb sb db vb rg : Nat} {d d' : DD} {s : SS} {v : VS} {pb : Option Addr} {cb : Nat} {pa : Option Addr} {ca : Nat} {T T' : List RF} {rs : Option Addr} {rk : Nat} {qb : Option Addr} {kb : Nat} {qa : Option Addr} {ka : Nat} {W wB : World} (hx : XW base rb sb db vb d' s v pb cb pa ca wB) (hr : wB.heap[rg]? = some (.cells (rvA T d s rs rk v qb kb qa ka) 76 (0, 0))) (hv : RVR wB T d s rs rk v qb kb qa ka) (hd : RDB wB T' d') (hn : ∀ k, (Value.slice pa v.after.length ca).ownBlock = some k → ¬ (Value.slice qa v.after.length ka).ownBlock = some k) (hl : Below base W wB) (ha : base ≤ rg) :
  LV base rb sb db vb rg d' s v pb cb pa ca T' rs rk qb kb qa ka W (wB.setCells rg 0 (rdA T' d').toList) := by
 obtain ⟨q1, q2, q3⟩ := rv_store0 hv.rd.n3 hv.rd.m3 hr hd hv
 refine ⟨hx.off q3 (fun k M' t fr hk hm => ?_), q1, q2, hn, hl.trans ((q3.below (Nat.le_trans ha (Nat.le_of_lt (Array.getElem?_eq_some_iff.1 hr).1)) (fun i hi => by have hi : i = rg := hi; omega))), ha⟩
 have hk : k = rg := hk
 subst hk
 rw [hr] at hm
 injection hm with e1
 injection e1 with _ e2
 exact e2.symm
theorem hdr_dty {base : Nat} {w : World} {v : Value} {ls : List (List UInt8)} (h : LsR w v ls) {k : Nat} (hk : v.ownBlock = some k) (hS : DTy base w k) : False := by
 obtain ⟨_, M, t, fr, hm, ht⟩ := hS
 have := (h.ty hk).2 M t fr hm
 subst this
 rcases ht with ht | ht <;> exact absurd ht (by decide)
theorem hdr_sty {base : Nat} {w : World} {v : Value} {ls : List (List UInt8)} (h : LsR w v ls) {k : Nat} (hk : v.ownBlock = some k) (hS : STy base w k) : False := by
 obtain ⟨_, M, t, fr, hm, ht⟩ := hS
 have := (h.ty hk).2 M t fr hm
 subst this
 rcases ht with ht | ht | ht <;> exact absurd ht (by decide)
theorem hdr_row {w : World} {v : Value} {ls : List (List UInt8)} (h : LsR w v ls) {k : Nat} (hk : v.ownBlock = some k) {M : Array Value} {t : TypeId} {fr : Nat × Nat} (hr : w.heap[k]? = some (.cells M t fr)) (ht : t ≠ 22) : False :=
 ht ((h.ty hk).2 M t fr hr)
set_option maxRecDepth 100000 in
set_option maxHeartbeats 25600000 in
theorem law_does22 (room : Int) (p : Option Addr) (c : Nat) (os : List VOp) (rows : List (List Value)) (w : World) (hE : Rdr.EType w) (hO : VOps w p os.length c os rows) (hs : os.length + bsum os ≤ 4611686018427387904) :
  Calls Tryz.prog 6 #[.agg (caseA22 room p os.length c)] w fun e w' => e = .returned (.bool true) ∧ Below w.heap.size w w' := by
 obtain ⟨CA, hCA⟩ : ∃ CA, CA = caseA22 room p os.length c := ⟨_, rfl⟩
 have hal := Below.allocs w (.cells CA 82)
 have hrow : (w.alloc (.cells CA 82)).heap[w.heap.size]? = some (.cells CA 82 (0, 0)) := heap_alloc_last _ _
 have HCELL : Hid (∀ y : World, y.heap[w.heap.size]? = some (.cells CA 82 (0, 0)) → y.cell? ⟨w.heap.size, 0, none⟩ = some (.int .i64 room) ∧ y.cell? ⟨w.heap.size, 1, none⟩ = some (.slice p os.length c)) := fun y hy => case22_cells (by rw [hCA] at hy; exact hy)
 rw [← hCA]
 have HB1 := Lib.hid hal
 have HROW := Lib.hid hrow
 have HO := Lib.hid (hO.below hal)
 have HE := Lib.hid (hE.below hal hE.lt)
 have HSUM := Lib.hid hs
 have HG : Hid (0 < (w.alloc (.cells CA 82)).heap.size) := by show _ < _; have := hE.lt; have := hal.size; omega
 obtain ⟨hc0, _⟩ := HCELL.out _ hrow
 clear hE hO hs hal hrow hCA
 go_enter Tryz.func6, Tryz.ntmps6
 go_upto_region 1 with fail
 generalize w.alloc (.cells CA 82) = w1 at *
 by_cases hroom : room < 1 ∨ 65536 < room
 ·go_wp2_with fail
  refine (new_bad room w1 hroom).mono ?_
  rintro e w2 ⟨rfl, rfl⟩
  obtain ⟨_, hc1⟩ := HCELL.out _ HROW.out
  have HSM := Lib.hid (small22_any os p c rows w1 HO.out HSUM.out)
  generalize decide (os.length + bsum os ≤ 1000) = q at *
  go_wp2_with fail
  refine HSM.out.mono ?_
  rintro e w3 ⟨rfl, hb3⟩
  have HE3 := Lib.hid (HE.out.below hb3 HE.out.lt)
  have HB3 := Lib.hid (HB1.out.trans (hb3.mono HB1.out.size))
  cases q with
  | true =>
   skip
   have HA := Lib.hid (alive22_any w3 HE3.out)
   go_wp2_with fail
   refine HA.out.mono ?_
   rintro e w9 ⟨rfl, hb9⟩
   have HB9 := Lib.hid (HB3.out.trans (hb9.mono HB3.out.size))
   go_wp2_with fail
   go_ret
   exact ⟨rfl, HB9.out⟩
  | false =>
   skip
   have HA := Lib.hid (alive22_any w3 HE3.out)
   go_wp2_with fail
   refine HA.out.mono ?_
   rintro e w9 ⟨rfl, hb9⟩
   have HB9 := Lib.hid (HB3.out.trans (hb9.mono HB3.out.size))
   go_wp2_with fail
   go_ret
   exact ⟨rfl, HB9.out⟩
 obtain ⟨R, rfl⟩ : ∃ R : Nat, room = (R : Int) := ⟨room.toNat, by omega⟩
 have hR : 1 ≤ R ∧ R ≤ 65536 := by omega
 have HRB := Lib.hid hR
 clear hroom
 have HNW := Lib.hid (snew R w1 hR)
 clear hR
 go_wp2_with fail
 refine HNW.out.mono ?_
 rintro e w2 ⟨db, rfl, hd2, hb2⟩
 have HX2 := Lib.hid hd2
 have HW2 := Lib.hid hb2
 have HROW2 := Lib.hid (Below.keepOld hb2 HROW.out)
 have HSM := Lib.hid (small22_any os p c rows w2 (HO.out.below hb2) HSUM.out)
 clear hd2 hb2 hc0 HNW
 obtain ⟨_, hc1⟩ := HCELL.out _ HROW2.out
 go_wp2_with fail
 refine HSM.out.mono ?_
 rintro e w3 ⟨rfl, hb3⟩
 have HW3 := Lib.hid (HW2.out.trans (hb3.mono HW2.out.size))
 have HX3 := Lib.hid (HX2.out.below hb3)
 have HROW3 := Lib.hid (Below.keepOld hb3 HROW2.out)
 clear hb3 HX2 HW2 HROW2 HSM HSUM hc1
 by_cases hsm : os.length + bsum os ≤ 1000
 rotate_left
 ·have hq : decide (os.length + bsum os ≤ 1000) = false := decide_eq_false hsm
  rw [hq]
  have HB3 := Lib.hid (HB1.out.trans (HW3.out.mono HB1.out.size))
  have HE3 := Lib.hid (HE.out.below HW3.out HE.out.lt)
  clear hsm hq
  skip
  have HA := Lib.hid (alive22_any w3 HE3.out)
  go_wp2_with fail
  refine HA.out.mono ?_
  rintro e w9 ⟨rfl, hb9⟩
  have HB9 := Lib.hid (HB3.out.trans (hb9.mono HB3.out.size))
  go_wp2_with fail
  go_ret
  exact ⟨rfl, HB9.out⟩
 have hq : decide (os.length + bsum os ≤ 1000) = true := decide_eq_true hsm
 rw [hq]
 have HSL := Lib.hid hsm
 clear hsm hq
 have hz := zeroD
 have hz2 := zeroRV
 have HE1 : Hid (∀ y, Below w1.heap.size w1 y → Rdr.EType y) := fun y hy => HE.out.below hy HE.out.lt
 obtain ⟨n1, n2, n3⟩ := vi_new R HX3.out.room.2.2
 have hvo := vopen_any w3 (HE1.out _ HW3.out) HG.out HX3.out rfl (by show 0 + 1 ≤ _; omega) (fun _ h => by rw [n1] at h; cases h)
 have hro := fun y => rvopen_any T0V (DD.new R) y (rdb_newV y R HRB.out) rfl HX3.out.room.2.2 (by show 0 + 1 ≤ _; omega)
 unfold RVOpP at hro
 have hrE : ropE (DD.new R) = 0 := by unfold ropE; rw [if_pos n2, n1]; rfl
 rw [hrE] at hro
 have HN1 := Lib.hid n1
 have HN2 := Lib.hid n2
 have HVI0 := Lib.hid n3
 have HVO := Lib.hid hvo
 have HRO := Lib.hid hro
 clear n1 n2 n3 hvo hro hrE
 go_upto_region 4 with fail
 go_wp2_with fail
 refine HVO.out.mono ?_
 rintro e w4 ⟨hkt, hsay⟩
 rcases hsay with ⟨hno, _, _⟩ | ⟨_, v0, rb, sb, vb, hv0, rfl, pb0, cb0, pa0, ca0, hx⟩
 ·exact absurd HN2.out hno
 obtain rfl : v0 = VS.zero := by
  have := HN1.out
  rw [this] at hv0
  exact (Option.some.inj hv0).symm
 have HX4 := Lib.hid hx
 have HW4 := Lib.hid (HW3.out.trans (hkt.below HX3.out.1))
 have HROW4 := Lib.hid (hkt.row HROW3.out (by decide) (by decide))
 clear hkt hx hv0 HVO HX3 HW3 HROW3
 obtain ⟨hc0, hc1⟩ := HCELL.out _ HROW4.out
 go_upto_region 5 with fail
 go_wp2_with (refine Rdr.wpList_build rfl 65 _ rfl [(1, .int .i64 (R : Int))] rfl _ (built_rdV R) ?_)
 refine (HRO.out w4).mono ?_
 rintro e w5 ⟨T0, v0, rs0, rk0, qb0, kb0, qa0, ka0, rfl, hrv, hb5, hv0, hown⟩
 obtain rfl : v0 = VS.zero := hv0 HN2.out _ HN1.out
 generalize opnD (DD.new R) 0 = D0 at *
 generalize opnS (DD.new R) 1 2 = S0 at *
 have hal := Below.allocs w5 (.cells zRV 76)
 have hnew := heap_alloc_last w5 (.cells zRV 76)
 have hbx := hb5.trans (hal.mono hb5.size)
 have hw5 := HW4.out.trans (hbx.mono HW4.out.size)
 have NEW := Lib.hid hnew
 have HLV0 : Hid (LV w1.heap.size rb sb db vb w5.heap.size D0 S0 VS.zero pb0 cb0 pa0 ca0 T0 rs0 rk0 qb0 kb0 qa0 ka0 w1 ((w5.alloc (.cells zRV 76)).setRow w5.heap.size (rvA T0 D0 S0 rs0 rk0 VS.zero qb0 kb0 qa0 ka0))) :=
  LV.store (HX4.out.below hbx) hnew (hrv.below hal) (fun k a b => by
   obtain ⟨_, z, _⟩ := HX4.out.ls.all
   have h1 := (z.lt k a).2
   have h2 := hown k b
   omega) hw5 (Nat.le_trans HW4.out.size hb5.size)
 have HROW5 : Hid (((w5.alloc (.cells zRV 76)).setRow w5.heap.size (rvA T0 D0 S0 rs0 rk0 VS.zero qb0 kb0 qa0 ka0)).heap[w.heap.size]? = some (.cells CA 82 (0, 0))) := Below.keepOld HLV0.out.low HROW.out
 have HSZ5 : Hid ((rvA T0 D0 S0 rs0 rk0 VS.zero qb0 kb0 qa0 ka0).size = 18) := rvA_size hrv.rd.n3 hrv.rd.m3 _ _ _ _ _ _ _ _
 have HON5 : Hid ((rvA T0 D0 S0 rs0 rk0 VS.zero qb0 kb0 qa0 ka0).all (·.oneCell') = true) := rvA_one hrv.rd.n3 hrv.rd.m3 _ _ _ _ _ _ _ _
 clear hrv hb5 hv0 hown hal hnew hbx hw5 hc0 hc1 HX4 HW4 HROW4 HRO HN1 HN2
 go_upto_region 6 with (refine wpList_store_row rfl 76 _ _ rfl w5.heap.size (rvA T0 D0 S0 rs0 rk0 VS.zero qb0 kb0 qa0 ka0) rfl rfl 76 zRV NEW.out (infoRV _ HSZ5.out) (by rw [HSZ5.out]; rfl) HON5.out ?_)
 try simp only [Act.put, zA, zB, zC]
 clear NEW HSZ5 HON5
 generalize (w5.alloc (.cells zRV 76)).setRow w5.heap.size (rvA T0 D0 S0 rs0 rk0 VS.zero qb0 kb0 qa0 ka0) = w6 at *
 generalize w5.heap.size = rg at *
 obtain ⟨hc0, hc1⟩ := HCELL.out _ HROW5.out
 have hle := HO.out.rs.sl.le
 have hmax := HO.out.rs.sl.max
 go_upto_region 8 with fail
 go_wp2_with fail
 obtain ⟨Z, hzo, hZ⟩ := zVOp
 have HZZ := Lib.hid hZ
 have HVI1 : Hid (VI D0 S0 VS.zero (0 + bsum (os.take 0)) (10 * 0)) := HVI0.out
 clear hc0 hc1 hZ HROW5 HVI0 HRB
 go_loopw [5, 6, 8, 10, 48] (fun tv _ _ _ j wr => ∃ i : Nat, i ≤ os.length ∧ j = .int .i64 i ∧ ∃ rb sb vb d s v pb cb pa ca T rs rk qb kb qa ka, tv = .pointer (some ⟨vb, 0, none⟩) ∧ LV w1.heap.size rb sb db vb rg d s v pb cb pa ca T rs rk qb kb qa ka w1 wr ∧ VI d s v (i + bsum (os.take i)) (10 * i)) (fun _ _ _ _ j _ => os.length - (intOf j).toNat)
 case atStart => exact ⟨0, by omega, rfl, rb, sb, vb, D0, S0, VS.zero, pb0, cb0, pa0, ca0, T0, rs0, rk0, qb0, kb0, qa0, ka0, rfl, HLV0.out, HVI1.out⟩
 case round =>
  clear HLV0 HVI1
  obtain ⟨i, hi, rfl, rb, sb, vb, d, s, v, pb, cb, pa, ca, T, rs, rk, qb, kb, qa, ka, rfl, hlv, hvi⟩ := hrel
  have HLV0 := Lib.hid hlv
  have HVI := Lib.hid hvi
  clear hlv hvi
  by_cases hlt : i < os.length
  ·have hd : decide ((i : Int) < (os.length : Int)) = true := decide_eq_true (by omega)
   have hd2 : decide (i < os.length) = true := decide_eq_true hlt
   obtain ⟨b, o, rfl⟩ := HO.out.rs.sl.addr (by omega) (by omega)
   obtain ⟨po, co, hbs, hrg⟩ := HO.out.at i hlt
   have hkr : i < rows.length := by rw [HO.out.rs.count]; exact hlt
   have hvop := HO.out.each i _ os[i] (List.getElem?_eq_getElem hkr) (List.getElem?_eq_getElem hlt)
   have HNB := Lib.hid hvop.nB
   have HMB := Lib.hid hvop.mB
   have HKB := Lib.hid hvop.kB
   have HRG := Lib.hid (range_below hrg HLV0.out.low)
   have hts := bsum_take_succ os i hlt
   have htl := bsum_take_le os (i + 1)
   have HNX : Hid ((i + bsum (os.take i)) + (1 + (os[i]).b.length) = (i + 1) + bsum (os.take (i + 1))) := by show _ = _; omega
   have HTOT : Hid ((i + 1) + bsum (os.take (i + 1)) ≤ 1000) := by show _ ≤ _; have := HSL.out; omega
   have HIL : Hid (i + 1 ≤ os.length) := hlt
   have HBS := Lib.hid hbs
   clear hbs hrg hkr hvop hts htl
   generalize os[i] = oo at *
   obtain ⟨OA, hOA⟩ : ∃ OA, OA = vopA oo po co := ⟨_, rfl⟩
   have HOS : Hid (OA.size = 5) := by show _ = _; rw [hOA]; rfl
   have HOO : Hid (OA.all (·.oneCell') = true) := by show _ = _; rw [hOA]; exact vopA_one _ _ _
   have HOL : Hid (OA.toList.length = 5) := by show _ = _; rw [Array.length_toList]; exact HOS.out
   have HNW := Lib.hid (box_new wr Z 54)
   have HBR0 := Lib.hid (box_row wr Z OA 54)
   have HBB := Lib.hid (box_below wr Z OA 54)
   have HLV := Lib.hid (HLV0.out.next HBB.out)
   rw [← hOA] at HRG
   have HAE := Lib.hid hOA
   clear hOA
   go_upto_region 11 with (first
    | ((with_reducible refine wpAt 51 ?_); refine wpList_load_mid rfl 54 _ rfl b (o + i * 5) rfl OA.toList _ HRG.out Tryz.underlying54 rfl (infoVOp _ HOL.out) ?_)
    | ((with_reducible refine wpStoreAt 10 ?_); refine wpList_store_row rfl 54 _ _ rfl wr.heap.size OA rfl rfl 54 Z HNW.out (infoVOp _ HOS.out) (HZZ.out.trans HOS.out.symm) HOO.out ?_))
   generalize (wr.alloc (.cells Z 54)).setRow wr.heap.size OA = wF at *
   generalize wr.heap.size = og at *
   have hOA := HAE.out
   clear HAE
   subst hOA
   have HBR := Lib.hid HBR0.out
   clear HRG HNW HBB HOO HOL HLV0 HOS HBR0
   have HOB : Hid (∀ y, Below w1.heap.size w1 y → Bs y po oo.b.length co oo.b) := fun y hy => HBS.out.below hy
   have HSZB : Hid (w1.heap.size ≤ wF.heap.size) := HLV.out.xw.sx.dx.1
   have HBLN : Hid (oo.b.length ≤ 1000) := by show _ ≤ _; have := HNX.out; have := HTOT.out; omega
   have HUR : Hid (usedL d.fs ≤ d.room) := HLV.out.xw.sx.dx.room.2.2
   have HFW : Hid (10 * i ≤ 10000) := by show _ ≤ _; have := HTOT.out; omega
   clear HBS
   obtain ⟨hc0, -, -, -, hc4⟩ := vopA_cell HBR.out
   by_cases n0 : oo.kind = 0
   ·have m0 : (oo.kind == 0) = true := beq_iff_eq.2 n0
    clear n0
    have hp := vput_x wF HLV.out.xw po co oo.b (fun w' hk => HOB.out w' (HLV.out.low.trans (hk.below HSZB.out))) (by have := HBLN.out; omega) (by have := HVI.out.al; have := HNX.out; have := HTOT.out; omega) (by have := fewfd (i := 0) HVI.out.few; have := HFW.out; omega)
    unfold VPutX at hp
    have HP := Lib.hid hp
    have hvi2 := vi_put (r := oo.b) HVI.out (by have := HNX.out; have := HTOT.out; omega)
    rw [HNX.out] at hvi2
    have HVX := Lib.hid (hvi2.more (Nat.le_refl _) (show 10 * i + 1 ≤ 10 * (i + 1) by omega))
    have HRP : Hid (∀ y, RVR y T d s rs rk v qb kb qa ka → Bs y po oo.b.length co oo.b → Calls Tryz.prog 29 #[.agg (rvA T d s rs rk v qb kb qa ka), .slice po oo.b.length co] y (RVPutP T d s rs rk v qb kb qa ka oo.b y)) := fun y h1 h2 => by
     by_cases hok : vputOk v oo.b
     ·exact rvput_ok T d s rs rk v qb kb qa ka po co oo.b y h1 HUR.out (by have := fewfd (i := 0) HVI.out.few; have := HFW.out; omega) h2 (by have := HBLN.out; omega) hok (by have := HVI.out.al; have := HNX.out; have := HTOT.out; omega)
     ·exact rvput_bad T d s rs rk v qb kb qa ka po co oo.b y h1 HLV.out.xw.last h2 (by have := HBLN.out; omega) hok
    unfold RVPutP at HRP
    clear hp hvi2
    generalize vputE d v oo.b = E9 at *
    generalize vputD d v oo.b = D9 at *
    generalize vputV d v oo.b = V9 at *
    have hqe : ((E9 : Int) == E9) = true := beq_self_eq_true _
    have hqn : ((E9 : Int) != E9) = false := by rw [bne_eq_false_iff_eq]
    go_upto_region 14 with fail
    go_wp2_with fail
    refine HP.out.mono ?_
    rintro e wA ⟨rfl, pa1, ca1, hx1, ht1, hn1⟩
    have hkv := HLV.out.xw.kvd ht1
    have hrow1 := hkv.row HLV.out.row (by decide) (by decide) (by decide) (by decide) (by decide)
    have hbr1 := hkv.row HBR.out (by decide) (by decide) (by decide) (by decide) (by decide)
    have hrv1 := ref_kept HLV.out.rv hkv ht1 (fun k hk hS => by
     rcases hS with hS | rfl | hS
     ·exact hdr_dty HLV.out.rv.af hk hS
     ·exact hdr_row HLV.out.rv.af hk HLV.out.xw.row (by decide)
     ·exact HLV.out.ne k hS hk)
    have hlow1 := HLV.out.low.trans (hkv.below HSZB.out)
    have HROWA := Lib.hid hrow1
    have HRPA := Lib.hid (HRP.out wA hrv1 (HOB.out wA hlow1))
    have HXA := Lib.hid hx1
    have HLA := Lib.hid hlow1
    have HAP := Lib.hid (fun (qa' : Option Addr) (ka' : Nat) h2 => apart_put (qa' := qa') (ka' := ka') HLV.out ht1.size hx1 hn1 h2)
    have HN3 := Lib.hid (rvA_size HLV.out.rv.rd.n3 HLV.out.rv.rd.m3 s rs rk v qb kb qa ka)
    have HAT := Lib.hid HLV.out.at_
    obtain ⟨-, -, -, -, hc4'⟩ := vopA_cell hbr1
    clear hkv hrow1 hbr1 hrv1 hlow1 hx1 ht1 hn1 hc0 hc4 HP HRP HLV HBR
    go_upto_region 15 with fail
    go_wp2_with ((with_reducible refine wpAt 61 ?_); refine wpList_load_row rfl 76 _ rfl rg rfl 76 (rvA T d s rs rk v qb kb qa ka) (0, 0) _ HROWA.out Tryz.underlying76 rfl (infoRV _ HN3.out) ?_)
    refine HRPA.out.mono ?_
    rintro e wB ⟨T', qa1, ka1, rfl, hrv2, hb2, hn2⟩
    have ROWB := Lib.hid (Below.keepOld hb2 HROWA.out)
    have HLX := Lib.hid (LV.store (W := w1) (HXA.out.below hb2) ROWB.out hrv2 (HAP.out qa1 ka1 hn2) (HLA.out.trans (hb2.mono HLA.out.size)) HAT.out)
    have HN9 := Lib.hid (rvA_size hrv2.rd.n3 hrv2.rd.m3 s rs rk V9 qb kb qa1 ka1)
    have HO9 := Lib.hid (rvA_one hrv2.rd.n3 hrv2.rd.m3 s rs rk V9 qb kb qa1 ka1)
    clear hrv2 hb2 hn2 hc4' HRPA HROWA HXA HLA HAP
    go_upto_region 28 with ((with_reducible refine wpStoreAt 7 ?_); refine wpList_store_row rfl 76 _ _ rfl rg (rvA T' D9 s rs rk V9 qb kb qa1 ka1) rfl rfl 76 (rvA T d s rs rk v qb kb qa ka) ROWB.out (infoRV _ HN9.out) (HN3.out.trans HN9.out.symm) HO9.out ?_)
    try simp only [Act.put, zA, zB, zC]
    clear ROWB HN9 HO9 HN3 HAT
    generalize wB.setRow rg (rvA T' D9 s rs rk V9 qb kb qa1 ka1) = wX at *
    skip
    have HLK := Lib.hid (like22_any wX ⟨pb, cb, pa1, ca1, HLX.out.xw⟩ HLX.out.rv (by have := HVX.out.bl; omega) (by have := HVX.out.al; have := HTOT.out; omega) (fun x hx => by have := HVX.out.ax x hx; omega))
    go_wp2_with ((with_reducible refine wpAt 130 ?_); refine wpList_load_row_g (by rfl) 76 _ rfl rg rfl 76 (rvA T' D9 s rs rk V9 qb kb qa1 ka1) (0, 0) _ HLX.out.row Tryz.underlying76 rfl (infoRV _ (rvA_size HLX.out.rv.rd.n3 HLX.out.rv.rd.m3 s rs rk V9 qb kb qa1 ka1)) ?_)
    refine HLK.out.mono ?_
    rintro e wY ⟨rfl, hbY⟩
    have HLY := Lib.hid (HLX.out.next hbY)
    clear hbY HLK HLX
    go_wp2_with fail
    go_roundw
    case rel => exact ⟨i + 1, HIL.out, by go_num, _, _, _, _, _, _, _, _, _, _, _, _, _, _, _, _, _, rfl, HLY.out, HVX.out⟩
    case measure => have := HIL.out; simp [intOf]; omega
   have m0 : (oo.kind == 0) = false := beq_eq_false_iff_ne.2 n0
   by_cases n1 : oo.kind = 1
   ·have m1 : (oo.kind == 1) = true := beq_iff_eq.2 n1
    clear n0 n1
    have hp := vcomp_x (N := 10 * i) wF HLV.out.xw po co oo.b (fun w' hk => HOB.out w' (HLV.out.low.trans (hk.below HSZB.out))) (by have := HBLN.out; omega) (by have := HFW.out; omega) (fun j => fewfd HVI.out.few)
    unfold VCompX at hp
    have HP := Lib.hid hp
    have hvi2 := vi_comp (c := oo.b) HVI.out HUR.out (by have := HNX.out; have := HTOT.out; omega)
    rw [HNX.out] at hvi2
    have HVX := Lib.hid (hvi2.more (Nat.le_refl _) (show 10 * i + 5 ≤ 10 * (i + 1) by omega))
    have HRP : Hid (∀ y, RVR y T d s rs rk v qb kb qa ka → Bs y po oo.b.length co oo.b → Calls Tryz.prog 30 #[.agg (rvA T d s rs rk v qb kb qa ka), .slice po oo.b.length co] y (RVCompP T d s rs rk v qb kb qa ka oo.b y)) := fun y h1 h2 =>
     rvcomp_ok T d s rs rk v qb kb qa ka (10 * i) po co oo.b y h1 ⟨HUR.out, HVI.out.few⟩ (by have := HFW.out; omega) HLV.out.xw.sx.turn HLV.out.xw.last h2 (by have := HBLN.out; omega)
    unfold RVCompP at HRP
    clear hp hvi2
    generalize vcE d s v oo.b = E9 at *
    generalize vcD d s v oo.b = D9 at *
    generalize vcS d s v oo.b = S9 at *
    generalize vcV d s v oo.b = V9 at *
    have hqe : ((E9 : Int) == E9) = true := beq_self_eq_true _
    have hqn : ((E9 : Int) != E9) = false := by rw [bne_eq_false_iff_eq]
    go_upto_region 17 with fail
    go_wp2_with fail
    refine HP.out.mono ?_
    rintro e wA ⟨rfl, pb1, cb1, pa1, ca1, hx1, ht1, hn1⟩
    have hkv := HLV.out.xw.kvs ht1
    have hrow1 := hkv.row HLV.out.row (by decide) (by decide) (by decide) (by decide) (by decide)
    have hbr1 := hkv.row HBR.out (by decide) (by decide) (by decide) (by decide) (by decide)
    have hrv1 := ref_kept HLV.out.rv hkv ht1 (fun k hk hS => by
     rcases hS with hS | rfl
     ·exact hdr_sty HLV.out.rv.af hk hS
     ·exact hdr_row HLV.out.rv.af hk HLV.out.xw.row (by decide))
    have hlow1 := HLV.out.low.trans (hkv.below HSZB.out)
    have HROWA := Lib.hid hrow1
    have HRPA := Lib.hid (HRP.out wA hrv1 (HOB.out wA hlow1))
    have HXA := Lib.hid hx1
    have HLA := Lib.hid hlow1
    have HAP := Lib.hid (fun (qa' : Option Addr) (ka' : Nat) h2 => apart_put (qa' := qa') (ka' := ka') HLV.out ht1.size hx1 (fun k hk => .inl (hn1 k hk)) h2)
    have HN3 := Lib.hid (rvA_size HLV.out.rv.rd.n3 HLV.out.rv.rd.m3 s rs rk v qb kb qa ka)
    have HAT := Lib.hid HLV.out.at_
    obtain ⟨-, -, -, -, hc4'⟩ := vopA_cell hbr1
    clear hkv hrow1 hbr1 hrv1 hlow1 hx1 ht1 hn1 hc0 hc4 HP HRP HLV HBR
    go_upto_region 18 with fail
    go_wp2_with ((with_reducible refine wpAt 74 ?_); refine wpList_load_row rfl 76 _ rfl rg rfl 76 (rvA T d s rs rk v qb kb qa ka) (0, 0) _ HROWA.out Tryz.underlying76 rfl (infoRV _ HN3.out) ?_)
    refine HRPA.out.mono ?_
    rintro e wB ⟨T', rs1, rk1, qb1, kb1, qa1, ka1, rfl, hrv2, hb2, hn2⟩
    have ROWB := Lib.hid (Below.keepOld hb2 HROWA.out)
    have HLX := Lib.hid (LV.store (W := w1) (HXA.out.below hb2) ROWB.out hrv2 (HAP.out qa1 ka1 (fun k hk => .inl (hn2 k hk))) (HLA.out.trans (hb2.mono HLA.out.size)) HAT.out)
    have HN9 := Lib.hid (rvA_size hrv2.rd.n3 hrv2.rd.m3 S9 rs1 rk1 V9 qb1 kb1 qa1 ka1)
    have HO9 := Lib.hid (rvA_one hrv2.rd.n3 hrv2.rd.m3 S9 rs1 rk1 V9 qb1 kb1 qa1 ka1)
    clear hrv2 hb2 hn2 hc4' HRPA HROWA HXA HLA HAP
    go_upto_region 28 with ((with_reducible refine wpStoreAt 7 ?_); refine wpList_store_row rfl 76 _ _ rfl rg (rvA T' D9 S9 rs1 rk1 V9 qb1 kb1 qa1 ka1) rfl rfl 76 (rvA T d s rs rk v qb kb qa ka) ROWB.out (infoRV _ HN9.out) (HN3.out.trans HN9.out.symm) HO9.out ?_)
    try simp only [Act.put, zA, zB, zC]
    clear ROWB HN9 HO9 HN3 HAT
    generalize wB.setRow rg (rvA T' D9 S9 rs1 rk1 V9 qb1 kb1 qa1 ka1) = wX at *
    skip
    have HLK := Lib.hid (like22_any wX ⟨pb1, cb1, pa1, ca1, HLX.out.xw⟩ HLX.out.rv (by have := HVX.out.bl; omega) (by have := HVX.out.al; have := HTOT.out; omega) (fun x hx => by have := HVX.out.ax x hx; omega))
    go_wp2_with ((with_reducible refine wpAt 130 ?_); refine wpList_load_row_g (by rfl) 76 _ rfl rg rfl 76 (rvA T' D9 S9 rs1 rk1 V9 qb1 kb1 qa1 ka1) (0, 0) _ HLX.out.row Tryz.underlying76 rfl (infoRV _ (rvA_size HLX.out.rv.rd.n3 HLX.out.rv.rd.m3 S9 rs1 rk1 V9 qb1 kb1 qa1 ka1)) ?_)
    refine HLK.out.mono ?_
    rintro e wY ⟨rfl, hbY⟩
    have HLY := Lib.hid (HLX.out.next hbY)
    clear hbY HLK HLX
    go_wp2_with fail
    go_roundw
    case rel => exact ⟨i + 1, HIL.out, by go_num, _, _, _, _, _, _, _, _, _, _, _, _, _, _, _, _, _, rfl, HLY.out, HVX.out⟩
    case measure => have := HIL.out; simp [intOf]; omega
   have m1 : (oo.kind == 1) = false := beq_eq_false_iff_ne.2 n1
   have HVN : Hid (VI d s v ((i + 1) + bsum (os.take (i + 1))) (10 * (i + 1))) := HVI.out.more (by have := HNX.out; omega) (by omega)
   clear hc4
   obtain ⟨-, hc1, hc2, hc3, -⟩ := vopA_cell HBR.out
   by_cases n2 : oo.kind = 2
   ·have m2 : (oo.kind == 2) = true := beq_iff_eq.2 n2
    clear n0 n1 n2 hc2 hc3
    have HAR := Lib.hid (sarm wF HLV.out.xw.sx.dx oo.n HNB.out.2)
    have HVX := Lib.hid (vi_arm HVN.out oo.n.toNat)
    clear HVN
    go_upto_region 20 with fail
    go_wp2_with fail
    refine HAR.out.mono ?_
    rintro e wA ⟨rfl, hdx, hkt⟩
    have hkv := KV.of_kt hkt
    have hrow1 := hkv.row HLV.out.row (by decide) (by decide) (by decide) (by decide) (by decide)
    have hbr1 := hkv.row HBR.out (by decide) (by decide) (by decide) (by decide) (by decide)
    have hrv1 := ref_kept HLV.out.rv hkv hkt (fun k hk hS => hdr_dty HLV.out.rv.af hk hS)
    have HROWA := Lib.hid hrow1
    have HRVA := Lib.hid hrv1
    have HXA := Lib.hid (HLV.out.xw.kt hkt hdx)
    have HLA := Lib.hid (HLV.out.low.trans (hkv.below HSZB.out))
    have HNE := Lib.hid HLV.out.ne
    have HAT := Lib.hid HLV.out.at_
    obtain ⟨-, hc1', -, -, -⟩ := vopA_cell hbr1
    have HRA := Lib.hid (rarm_ox T d oo.n wA hrv1.rd HNB.out.2)
    have HRNG := Lib.hid (rv_range0 hrow1)
    clear hkv hrow1 hbr1 hrv1 hdx hkt hc0 hc1 HAR HLV HBR
    have HT3 := Lib.hid HRVA.out.rd.n3
    have HTM := Lib.hid HRVA.out.rd.m3
    go_upto_region 21 with fail
    go_wp2_with ((with_reducible refine wpAt 87 ?_); refine wpList_load_mid rfl 65 _ rfl rg 0 rfl (rdA T d).toList _ HRNG.out Tryz.underlying65 rfl (infoRD (rdA T d) (rdA_size HT3.out HTM.out)) ?_)
    refine HRA.out.mono ?_
    rintro e wB ⟨T', rfl, hrd, hb2⟩
    have ROWB := Lib.hid (Below.keepOld hb2 HROWA.out)
    have HLX := Lib.hid (LV.disk (W := w1) (HXA.out.below hb2) ROWB.out (HRVA.out.below hb2) hrd HNE.out (HLA.out.trans (hb2.mono HLA.out.size)) HAT.out)
    have HN9 := Lib.hid hrd.n3
    have HM9 := Lib.hid hrd.m3
    have HTHR : Hid (wB.there rg 0 (rdA T' (⟨d.fs, d.room, oo.n.toNat, d.down⟩ : DD)).size) := there_row ROWB.out 0 _ (by rw [rdA_size HN9.out HM9.out, rvA_size HT3.out HTM.out]; omega)
    clear hrd hb2 hc1' HRA HROWA HXA HLA HRVA HNE HRNG
    go_upto_region 28 with (refine wpList_store_mid rfl 65 _ _ rfl rg 0 (rdA T' (⟨d.fs, d.room, oo.n.toNat, d.down⟩ : DD)) rfl rfl HTHR.out (infoRD _ (rdA_size HN9.out HM9.out)) (rdA_one HN9.out HM9.out) ?_)
    try simp only [Act.put]
    clear ROWB HTHR HAT
    generalize wB.setCells rg 0 (rdA T' (⟨d.fs, d.room, oo.n.toNat, d.down⟩ : DD)).toList = wX at *
    generalize (⟨d.fs, d.room, oo.n.toNat, d.down⟩ : DD) = D9 at *
    skip
    have HLK := Lib.hid (like22_any wX ⟨pb, cb, pa, ca, HLX.out.xw⟩ HLX.out.rv (by have := HVX.out.bl; omega) (by have := HVX.out.al; have := HTOT.out; omega) (fun x hx => by have := HVX.out.ax x hx; omega))
    go_wp2_with ((with_reducible refine wpAt 130 ?_); refine wpList_load_row_g (by rfl) 76 _ rfl rg rfl 76 (rvA T' D9 s rs rk v qb kb qa ka) (0, 0) _ HLX.out.row Tryz.underlying76 rfl (infoRV _ (rvA_size HLX.out.rv.rd.n3 HLX.out.rv.rd.m3 s rs rk v qb kb qa ka)) ?_)
    refine HLK.out.mono ?_
    rintro e wY ⟨rfl, hbY⟩
    have HLY := Lib.hid (HLX.out.next hbY)
    clear hbY HLK HLX
    go_wp2_with fail
    go_roundw
    case rel => exact ⟨i + 1, HIL.out, by go_num, _, _, _, _, _, _, _, _, _, _, _, _, _, _, _, _, _, rfl, HLY.out, HVX.out⟩
    case measure => have := HIL.out; simp [intOf]; omega
   have m2 : (oo.kind == 2) = false := beq_eq_false_iff_ne.2 n2
   by_cases n3 : oo.kind = 3
   ·have m3 : (oo.kind == 3) = true := beq_iff_eq.2 n3
    clear n0 n1 n2 n3
    have hal := Below.allocs wF (.cells #[.int .i64 oo.n, .int .i64 oo.m, .int .i64 oo.k] 3)
    have hdx0 := HLV.out.xw.sx.dx.below hal
    have HC1 := Lib.hid (scrash _ hdx0 [oo.n, oo.m, oo.k] _ 3 (ns3 wF oo.n oo.m oo.k HNB.out HMB.out HKB.out) (own3 w1.heap.size wF oo.n oo.m oo.k))
    have HKL : Hid (KT w1.heap.size wF (wF.alloc (.cells #[.int .i64 oo.n, .int .i64 oo.m, .int .i64 oo.k] 3))) := KT.of_below hal
    clear hal hdx0
    go_upto_region 23 with fail
    go_wp2_with fail
    refine HC1.out.mono ?_
    rintro e wA ⟨rfl, hdx, hkt⟩
    have hkA : KT w1.heap.size wF wA := HKL.out.trans hkt
    have HKA := Lib.hid hkA
    have HDA := Lib.hid hdx
    obtain ⟨v2, k1, k2, k3⟩ := vi_crash HVN.out [oo.n, oo.m, oo.k] hdx.room.2.2
    have HV1 := Lib.hid k1
    have HV2 := Lib.hid k2
    have HVX : Hid (VI (opnD (crashD [oo.n, oo.m, oo.k] d) 0) (opnS (crashD [oo.n, oo.m, oo.k] d) 1 2) v2 ((i + 1) + bsum (os.take (i + 1))) (10 * (i + 1))) := k3.more (Nat.le_refl _) (Nat.zero_le _)
    have HSZA : Hid (w1.heap.size ≤ wA.heap.size) := hdx.1
    have HLA := Lib.hid (HLV.out.low.trans (hkA.below HSZB.out))
    have hvo := vopen_any wA (HE1.out _ HLA.out) HG.out hdx rfl (by have := fewfd (i := 0) (few_crash (d := d) [oo.n, oo.m, oo.k]); omega) (fun _ h => by rw [k1] at h; cases h)
    have HVO := Lib.hid hvo
    clear hdx hkt hkA k1 k2 k3 hvo hc1 hc2 hc3 HC1 HKL HVN
    go_upto_region 24 with fail
    go_wp2_with fail
    refine HVO.out.mono ?_
    rintro e wB ⟨hkt, hsay⟩
    rcases hsay with ⟨hno, _, _⟩ | ⟨_, v3, rb2, sb2, vb2, hv3, rfl, pb2, cb2, pa2, ca2, hx⟩
    ·exact absurd HV2.out hno
    obtain rfl : v3 = v2 := by
     have := HV1.out
     rw [this] at hv3
     exact (Option.some.inj hv3).symm
    have HXB := Lib.hid hx
    have hkB : KT w1.heap.size wF wB := HKA.out.trans hkt
    have hkv := KV.of_kt hkB
    have hrow1 := hkv.row HLV.out.row (by decide) (by decide) (by decide) (by decide) (by decide)
    have hbr1 := hkv.row HBR.out (by decide) (by decide) (by decide) (by decide) (by decide)
    have hrv1 := ref_kept HLV.out.rv hkv hkB (fun k hk hS => hdr_dty HLV.out.rv.af hk hS)
    have HROWB := Lib.hid hrow1
    have HRVB := Lib.hid hrv1
    have HLB := Lib.hid (HLV.out.low.trans (hkv.below HSZB.out))
    have HAT := Lib.hid HLV.out.at_
    have HRNG := Lib.hid (rv_range0 hrow1)
    have HT3 := Lib.hid hrv1.rd.n3
    have HTM := Lib.hid hrv1.rd.m3
    have HSB := Lib.hid (rvA_size HT3.out HTM.out s rs rk v qb kb qa ka)
    obtain ⟨-, hc1, hc2, hc3, -⟩ := vopA_cell hbr1
    have halB := Below.allocs wB (.cells #[.int .i64 oo.n, .int .i64 oo.m, .int .i64 oo.k] 3)
    have HALB := Lib.hid halB
    have HRC := Lib.hid (rcrash_any T d [oo.n, oo.m, oo.k] _ 3 _ (hrv1.rd.below halB) (ns3 wB oo.n oo.m oo.k HNB.out HMB.out HKB.out))
    have HRO2 : Hid (∀ T1 y, RDB y T1 (crashD [oo.n, oo.m, oo.k] d) → Calls Tryz.prog 27 #[.agg (rdA T1 (crashD [oo.n, oo.m, oo.k] d))] y (RVOpP (crashD [oo.n, oo.m, oo.k] d) y)) := fun T1 y hy => rvopen_any T1 _ y hy rfl HDA.out.room.2.2 (by have := fewfd (i := 0) (few_crash (d := d) [oo.n, oo.m, oo.k]); omega)
    have HRE : Hid (ropE (crashD [oo.n, oo.m, oo.k] d) = 0) := by show _ = _; unfold ropE; rw [if_pos HV2.out, HV1.out]; rfl
    unfold RVOpP at HRO2
    rw [HRE.out] at HRO2
    have HOW : Hid (∀ k, (Value.slice pa2 v3.after.length ca2).ownBlock = some k → k < wB.heap.size) := fun k hk => by
     obtain ⟨_, z, _⟩ := HXB.out.ls.all
     exact (z.lt k hk).2
    clear hkt hkB hkv hrow1 hbr1 hrv1 hx hv3 halB HVO HKA HDA HLA HSZA HLV HBR hc0 HRE
    go_upto_region 25 with fail
    go_wp2_with ((with_reducible refine wpAt 110 ?_); refine wpList_load_mid rfl 65 _ rfl rg 0 rfl (rdA T d).toList _ HRNG.out Tryz.underlying65 rfl (infoRD (rdA T d) (rdA_size HT3.out HTM.out)) ?_)
    refine HRC.out.mono ?_
    rintro e wC ⟨T1, rfl, hrd, hbC⟩
    have hb1 := HALB.out.trans (hbC.mono HALB.out.size)
    have HBC := Lib.hid hb1
    have HRD := Lib.hid hrd
    clear hrd hbC hb1 HRC HRNG
    go_wp2_with fail
    refine (HRO2.out T1 wC HRD.out).mono ?_
    rintro e wD ⟨T2, v4, rs2, rk2, qb2, kb2, qa2, ka2, rfl, hrv2, hbD, hv4, hown⟩
    obtain rfl : v3 = v4 := (hv4 HV2.out _ HV1.out).symm
    have hb2 := HBC.out.trans (hbD.mono HBC.out.size)
    have ROWD := Lib.hid (Below.keepOld hb2 HROWB.out)
    generalize opnD (crashD [oo.n, oo.m, oo.k] d) 0 = D9 at *
    generalize opnS (crashD [oo.n, oo.m, oo.k] d) 1 2 = S9 at *
    have HLX := Lib.hid (LV.store (W := w1) (HXB.out.below hb2) ROWD.out hrv2 (fun k a b => by have h1 := HOW.out k a; have h2 := hown k b; have h3 := HBC.out.size; omega) (HLB.out.trans (hb2.mono HLB.out.size)) HAT.out)
    have HN9 := Lib.hid (rvA_size hrv2.rd.n3 hrv2.rd.m3 S9 rs2 rk2 v3 qb2 kb2 qa2 ka2)
    have HO9 := Lib.hid (rvA_one hrv2.rd.n3 hrv2.rd.m3 S9 rs2 rk2 v3 qb2 kb2 qa2 ka2)
    clear hrv2 hbD hb2 hv4 hown HROWB HRVB HXB HLB HOW HRD HBC HALB HRO2 HV1 HV2
    go_upto_region 26 with ((with_reducible refine wpStoreAt 7 ?_); refine wpList_store_row rfl 76 _ _ rfl rg (rvA T2 D9 S9 rs2 rk2 v3 qb2 kb2 qa2 ka2) rfl rfl 76 (rvA T d s rs rk v qb kb qa ka) ROWD.out (infoRV _ HN9.out) (HSB.out.trans HN9.out.symm) HO9.out ?_)
    try simp only [Act.put, zA, zB, zC]
    clear ROWD HN9 HO9 HSB HAT hc1 hc2 hc3
    generalize wD.setRow rg (rvA T2 D9 S9 rs2 rk2 v3 qb2 kb2 qa2 ka2) = wX at *
    go_upto_region 28 with fail
    skip
    have HLK := Lib.hid (like22_any wX ⟨pb2, cb2, pa2, ca2, HLX.out.xw⟩ HLX.out.rv (by have := HVX.out.bl; omega) (by have := HVX.out.al; have := HTOT.out; omega) (fun x hx => by have := HVX.out.ax x hx; omega))
    go_wp2_with ((with_reducible refine wpAt 130 ?_); refine wpList_load_row_g (by rfl) 76 _ rfl rg rfl 76 (rvA T2 D9 S9 rs2 rk2 v3 qb2 kb2 qa2 ka2) (0, 0) _ HLX.out.row Tryz.underlying76 rfl (infoRV _ (rvA_size HLX.out.rv.rd.n3 HLX.out.rv.rd.m3 S9 rs2 rk2 v3 qb2 kb2 qa2 ka2)) ?_)
    refine HLK.out.mono ?_
    rintro e wY ⟨rfl, hbY⟩
    have HLY := Lib.hid (HLX.out.next hbY)
    clear hbY HLK HLX
    go_wp2_with fail
    go_roundw
    case rel => exact ⟨i + 1, HIL.out, by go_num, _, _, _, _, _, _, _, _, _, _, _, _, _, _, _, _, _, rfl, HLY.out, HVX.out⟩
    case measure => have := HIL.out; simp [intOf]; omega
   have m3 : (oo.kind == 3) = false := beq_eq_false_iff_ne.2 n3
   clear n0 n1 n2 n3 hc1 hc2 hc3
   have HLX := Lib.hid HLV.out
   have HVX := Lib.hid HVN.out
   clear HLV HVN
   go_upto_region 28 with fail
   skip
   have HLK := Lib.hid (like22_any wF ⟨pb, cb, pa, ca, HLX.out.xw⟩ HLX.out.rv (by have := HVX.out.bl; omega) (by have := HVX.out.al; have := HTOT.out; omega) (fun x hx => by have := HVX.out.ax x hx; omega))
   go_wp2_with ((with_reducible refine wpAt 130 ?_); refine wpList_load_row_g (by rfl) 76 _ rfl rg rfl 76 (rvA T d s rs rk v qb kb qa ka) (0, 0) _ HLX.out.row Tryz.underlying76 rfl (infoRV _ (rvA_size HLX.out.rv.rd.n3 HLX.out.rv.rd.m3 s rs rk v qb kb qa ka)) ?_)
   refine HLK.out.mono ?_
   rintro e wY ⟨rfl, hbY⟩
   have HLY := Lib.hid (HLX.out.next hbY)
   clear hbY HLK HLX
   go_wp2_with fail
   go_roundw
   case rel => exact ⟨i + 1, HIL.out, by go_num, _, _, _, _, _, _, _, _, _, _, _, _, _, _, _, _, _, rfl, HLY.out, HVX.out⟩
   case measure => have := HIL.out; simp [intOf]; omega
  ·have hd : decide ((i : Int) < (os.length : Int)) = false := decide_eq_false (by omega)
   have hd2 : decide (i < os.length) = false := decide_eq_false hlt
   have HBF := Lib.hid (HB1.out.trans (HLV0.out.low.mono HB1.out.size))
   have HEF := Lib.hid (HE1.out _ HLV0.out.low)
   skip
   have HA := Lib.hid (alive22_any wr HEF.out)
   go_wp2_with fail
   refine HA.out.mono ?_
   rintro e w9 ⟨rfl, hb9⟩
   have HB9 := Lib.hid (HBF.out.trans (hb9.mono HBF.out.size))
   go_wp2_with fail
   go_ret
   exact ⟨rfl, HB9.out⟩
end Go.Proofs.YtnejjfglkindjaaGreatDoor.Vlt
