/- PARTS, JOINED: THE LAW OF VAULTS: like: a vault, and its disk, stand as the document's. Conditions: none. THE LAW OF VAULTS: a Case that came in; what stands at the loop's head. Conditions: none. THE LAW VaultDoes. Conditions: the laid cell of errors.errorType; a bulk that fits. THE LAW VaultOpens. Conditions: the laid cell of errors.errorType. THE LAW VaultOpens: numbers that came in. Conditions: none. -/
import Derived.Test.YtnejjfglkindjaaGreatDoorVo1
import Derived.Test.YtnejjfglkindjaaGreatDoorVo2
import Derived.Test.YtnejjfglkindjaaGreatDoorVo3
import Derived.Test.YtnejjfglkindjaaGreatDoorVo4
import Derived.Test.YtnejjfglkindjaaGreatDoorVo5
import Derived.Test.YtnejjfglkindjaaGreatDoorVo6
import Derived.Test.YtnejjfglkindjaaGreatDoorVo7
import Derived.Test.YtnejjfglkindjaaGreatDoorVo8
import Derived.Test.YtnejjfglkindjaaGreatDoorVo9
import Derived.Test.YtnejjfglkindjaaGreatDoorVo10
import Derived.Test.YtnejjfglkindjaaGreatDoorRows
import Derived.SizedLaws
namespace Go.Proofs.YtnejjfglkindjaaGreatDoor.Vlt
open Go.RowKit Go.Mir Go.Mir.Parts Dk Rol Wr Slt Cut Rk
open Frm (frame scan)
theorem XV.dxV {base rb sb db vb : Nat} {d : DD} {s : SS} {v : VS} {w : World} (h : XV base rb sb db vb d s v w) : DX base db d w := by
 obtain ⟨pb, cb, pa, ca, h⟩ := h
 exact h.sx.dx
theorem xkeptV {base db : Nat} {d : DD} (w : World) (h : DX base db d w) (i : Nat) (hi : i < 3) :
  Calls Tryz.prog 56 #[.pointer (some ⟨db, 0, none⟩), .int .i64 (i : Int)] w fun e w' => ∃ p c, e = .returned (.slice p (fD d i).kept.length c) ∧ Bs w' p (fD d i).kept.length c (fD d i).kept ∧ Below w.heap.size w w' := by
 obtain ⟨h0, vs, h1⟩ := h
 have := kept_in w h1 i (fD_lt h1 hi)
 rw [fD_eq (fD_lt h1 hi)] at this
 refine this.mono ?_
 rintro e w' ⟨p, c, he, hr, hb⟩
 obtain ⟨p', c', e1, hs⟩ := hr.bs
 cases e1
 exact ⟨p, c, he, hs, hb⟩
theorem vnextw_any {base rb sb db vb : Nat} {d : DD} {s : SS} {v : VS} (w : World) (h : XV base rb sb db vb d s v w) :
  Calls Tryz.prog 11 #[.pointer (some ⟨vb, 0, none⟩)] w fun e w' => e = .returned (.int .u64 (IntKind.u64.wrap ((v.last : Int) + 1))) ∧ w = w' := by
 have HN := Lib.hid (vnone_any w h)
 obtain ⟨pb, cb, pa, ca, h⟩ := h
 obtain ⟨-, -, hc2, -⟩ := vA_cells h.row
 clear h
 go_enter Tryz.func11, Tryz.ntmps11
 go_wp2_with fail
 refine HN.out.mono ?_
 rintro e w' ⟨rfl, rfl⟩
 go_wp2_with fail
 go_ret
 exact ⟨rfl, rfl⟩
theorem rv_rangeF {w : World} {g : Nat} {T : List RF} {d : DD} {s : SS} {ps : Option Addr} {cs : Nat} {v : VS} {pb : Option Addr} {cb : Nat} {pa : Option Addr} {ca : Nat} {t : TypeId} {fr : Nat × Nat} (h1 : T.length = 3) (h2 : d.fs.length = 3) (h : w.heap[g]? = some (.cells (rvA T d s ps cs v pb cb pa ca) t fr)) (i : Nat) {x : RF} {f : FD} (ht : T[i]? = some x) (hf : d.fs[i]? = some f) : w.rangeAt g (i * 2) (fA x f).toList := by
 obtain ⟨a, b⟩ := rdA_file h1 h2 i ht hf
 have hr := rv_range0 h
 intro j u hu
 have hv : (fL x f)[j]? = some u := hu
 match j, hv with
 | 0, hv =>
  cases hv
  have := hr (i * 2) _ (by rw [Array.getElem?_toList]; exact a)
  rwa [Nat.zero_add] at this
 | 1, hv =>
  cases hv
  have := hr (i * 2 + 1) _ (by rw [Array.getElem?_toList]; exact b)
  rwa [Nat.zero_add] at this
 | j + 2, hv => simp [fL] at hv
theorem rv_down {w : World} {g : Nat} {T : List RF} {d : DD} {s : SS} {ps : Option Addr} {cs : Nat} {v : VS} {pb : Option Addr} {cb : Nat} {pa : Option Addr} {ca : Nat} {t : TypeId} {fr : Nat × Nat} (h1 : T.length = 3) (h2 : d.fs.length = 3) (h : w.heap[g]? = some (.cells (rvA T d s ps cs v pb cb pa ca) t fr)) : w.cell? ⟨g, 8, none⟩ = some (.bool d.down) := by
 have := rv_range0 h 8 _ (by rw [Array.getElem?_toList]; exact (rdA_tail h1 h2).2.2)
 rwa [Nat.zero_add] at this
set_option maxRecDepth 100000 in
set_option maxHeartbeats 6400000 in
theorem like22_any {base rb sb db vb : Nat} {d : DD} {s : SS} {v : VS} {T : List RF} {ps : Option Addr} {cs : Nat} {pb : Option Addr} {cb : Nat} {pa : Option Addr} {ca : Nat} (w : World) (h : XV base rb sb db vb d s v w) (hr : RVR w T d s ps cs v pb cb pa ca) (hbl : v.body.length ≤ 1000000) (hal : v.after.length ≤ 100000) (hax : ∀ x ∈ v.after, x.length ≤ 1000000) :
  Calls Tryz.prog 28 #[.pointer (some ⟨db, 0, none⟩), .pointer (some ⟨vb, 0, none⟩), .agg (rvA T d s ps cs v pb cb pa ca)] w fun e w' => e = .returned (.bool true) ∧ Below w.heap.size w w' := by
 have hal0 := Below.allocs w (.cells (rvA T d s ps cs v pb cb pa ca) 76)
 have HB1 := Lib.hid hal0
 have HROW := Lib.hid (heap_alloc_last w (.cells (rvA T d s ps cs v pb cb pa ca) 76))
 have HXV := Lib.hid (h.below hal0)
 have HX := Lib.hid (h.below hal0).dxV
 have HRV := Lib.hid (hr.below hal0)
 have HN3 := Lib.hid hr.rd.n3
 have HM3 := Lib.hid hr.rd.m3
 have HBL := Lib.hid hbl
 have HAL := Lib.hid hal
 have HAX := Lib.hid hax
 clear h hr hbl hal hax hal0
 go_enter Tryz.func28, Tryz.ntmps28
 go_upto_region 1 with fail
 generalize w.alloc (.cells (rvA T d s ps cs v pb cb pa ca) 76) = w1 at *
 go_wp2_with fail
 go_loopw [7] (fun j wr => ∃ k : Nat, k ≤ 3 ∧ j = .int .i64 k ∧ Below w1.heap.size w1 wr) (fun j _ => 3 - (intOf j).toNat)
 case atStart => exact ⟨0, by omega, rfl, Below.refl _ _⟩
 case round =>
  obtain ⟨k, hk, rfl, hbw⟩ := hrel
  have HBW := Lib.hid hbw
  clear hbw
  by_cases hlt : k < 3
  ·have hd : decide ((k : Int) < (3 : Int)) = true := decide_eq_true (by omega)
   have hd2 : decide (k < 3) = true := decide_eq_true hlt
   have hk1 : (k : Int) < 3 := by omega
   have HXR := Lib.hid (HX.out.below HBW.out)
   have HRR := Lib.hid (HRV.out.rd.below HBW.out)
   have HRW := Lib.hid (Below.keepOld HBW.out HROW.out)
   have hti : k < T.length := by rw [HN3.out]; exact hlt
   have ht : T[k]? = some (T[k]'hti) := List.getElem?_eq_getElem hti
   generalize T[k]'hti = t at *
   have HT := Lib.hid ht
   have HF := Lib.hid (HRR.out.fd hlt)
   have HFA := Lib.hid (HRR.out.each k t _ HT.out HF.out).1.now
   have HNB : Hid ((fD d k).need ≤ 1000000) := by
    obtain ⟨t', f', _, a, _, _, b⟩ := HRR.out.at.file k hlt
    rw [HF.out] at a
    cases a; exact b
   have HLF : Hid (∀ w', Below wr.heap.size wr w' → w'.rangeAt w.heap.size (k * 2) (fA t (fD d k)).toList) := fun w' hb => rv_rangeF HN3.out HM3.out (Below.keepOld hb HRW.out) k HT.out HF.out
   have HKP : Hid (∀ w', Below wr.heap.size wr w' → w'.cell? ⟨w.heap.size, k * 2, none⟩ = some (.slice t.kp (fD d k).kept.length t.kc)) := fun w' hb => HLF.out w' hb 0 _ rfl
   have HC4 : Hid (∀ w', Below wr.heap.size wr w' → (convert 22 9 (.slice t.kp (fD d k).kept.length t.kc)).run Tryz.prog w' = .ok (.string (S (fD d k).kept)) w') := fun w' hb => bconv (HFA.out.kept.below hb)
   clear ht hti HRW
   go_upto_region 4 with fail
   refine wp_region_eager_x (Below wr.heap.size wr) [(0, true), (1, true), (4, true), (5, true), (6, true), (7, true), (8, true), (2, false), (3, true), (9, false), (10, true), (11, true), (12, true), (13, true), (14, true), (17, true), (18, true), (19, true), (20, true), (21, true), (22, true), (23, true), (15, false), (16, true), (24, true), (25, true)] (by kernel_rfl) (by kernel_rfl) ?_ (eagerXOpen rfl ?_)
   ·exact below_drew1 _ _
   have hy0 : Below wr.heap.size wr wr.drew := below_drew1 _ _
   repeat (first
    | ((with_reducible refine eagerXLoadAt 21 ?_); refine wpEagerX_load (by rfl) 62 _ rfl w.heap.size (k * 2) rfl (fA t (fD d k)) _ (fun w' hb => HLF.out w' hb) Tryz.underlying62 rfl (infoFi _ rfl) ?_; (try simp only [Act.put, zA, zB, zC]); (try refine eagerXOpen rfl ?_))
    | ((first | (apply wpEagerX_take; (· rfl); (· (intro w' hb'; go_simp; try with_reducible rfl))) | refine wpEagerX_skip (by rfl) ?_ | refine wpEager_off (by rfl) ?_); (try simp only [Act.put, zA, zB, zC]); (try refine eagerXOpen rfl ?_)))
   (refine wpEagerX_op (by rfl) (fun K hK => ?_); go_simp; (refine (xread wr.drew (HXR.out.below hy0) k hlt).mono ?_; rintro e y ⟨p1, c1, rfl, ho, hb⟩; have HO1 := Lib.hid ho; have HY1 := Lib.hid (hy0.trans hb); have hsub : ∀ x, Below y.heap.size y x → Below wr.heap.size wr x := fun x hx => HY1.out.trans (hx.mono HY1.out.size); have hy1 : Below y.heap.size y y := Below.refl _ _; clear hb ho); refine Shut.out hK _ _ _ hsub (by assumption) ?_; clear hK K hsub; (try simp only [Act.put, zA, zB, zC]); (try refine eagerXOpen rfl ?_))
   have HC1 : Hid (∀ w', Below y.heap.size y w' → (convert 22 9 (.slice p1 (fD d k).now.length c1)).run Tryz.prog w' = .ok (.string (S (fD d k).now)) w') := fun w' hb => bconv (HO1.out.below hb)
   repeat (first
    | (apply wpEagerX_take; (· rfl); (· (intro w' hb'; have hk' := (fun w' hb => HC1.out w' hb) w' hb'; go_split_ands; go_simp; try with_reducible rfl)); (try simp only [Act.put, zA, zB, zC]); (try refine eagerXOpen rfl ?_))
    | ((first | (apply wpEagerX_take; (· rfl); (· (intro w' hb'; go_simp; try with_reducible rfl))) | refine wpEagerX_skip (by rfl) ?_ | refine wpEager_off (by rfl) ?_); (try simp only [Act.put, zA, zB, zC]); (try refine eagerXOpen rfl ?_)))
   (refine wpEagerX_op (by rfl) (fun K hK => ?_); go_simp; (refine (rholds_any t (fD d k) y (HFA.out.below HY1.out) HNB.out).mono ?_; rintro e y2 ⟨p2, c2, rfl, ho, hb⟩; have HO2 := Lib.hid (own_bs ho); have HY2 := Lib.hid (HY1.out.trans (hb.mono HY1.out.size)); have hsub : ∀ x, Below y2.heap.size y2 x → Below y.heap.size y x := fun x hx => hb.trans (hx.mono hb.size); have hy2 : Below y2.heap.size y2 y2 := Below.refl _ _; clear ho); refine Shut.out hK _ _ _ hsub (by assumption) ?_; clear hK K hsub; (try simp only [Act.put, zA, zB, zC]); (try refine eagerXOpen rfl ?_))
   have HC2 : Hid (∀ w', Below y2.heap.size y2 w' → (convert 22 9 (.slice p2 (fD d k).now.length c2)).run Tryz.prog w' = .ok (.string (S (fD d k).now)) w') := fun w' hb => bconv (HO2.out.below hb)
   have HKP2 : Hid (∀ w', Below y2.heap.size y2 w' → w'.cell? ⟨w.heap.size, k * 2, none⟩ = some (.slice t.kp (fD d k).kept.length t.kc)) := fun w' hb => HKP.out w' (HY2.out.trans (hb.mono HY2.out.size))
   have HC42 : Hid (∀ w', Below y2.heap.size y2 w' → (convert 22 9 (.slice t.kp (fD d k).kept.length t.kc)).run Tryz.prog w' = .ok (.string (S (fD d k).kept)) w') := fun w' hb => HC4.out w' (HY2.out.trans (hb.mono HY2.out.size))
   repeat (first
    | (apply wpEagerX_take; (· rfl); (· (intro w' hb'; have hk' := (fun w' hb => HC2.out w' hb) w' hb'; go_split_ands; go_simp; try with_reducible rfl)); (try simp only [Act.put, zA, zB, zC]); (try refine eagerXOpen rfl ?_))
    | (apply wpEagerX_take; (· rfl); (· (intro w' hb'; have hk' := (fun w' hb => HKP2.out w' hb) w' hb'; go_split_ands; go_simp; try with_reducible rfl)); (try simp only [Act.put, zA, zB, zC]); (try refine eagerXOpen rfl ?_))
    | (apply wpEagerX_take; (· rfl); (· (intro w' hb'; have hk' := (fun w' hb => HC42.out w' hb) w' hb'; go_split_ands; go_simp; try with_reducible rfl)); (try simp only [Act.put, zA, zB, zC]); (try refine eagerXOpen rfl ?_))
    | ((first | (apply wpEagerX_take; (· rfl); (· (intro w' hb'; go_simp; try with_reducible rfl))) | refine wpEagerX_skip (by rfl) ?_ | refine wpEager_off (by rfl) ?_); (try simp only [Act.put, zA, zB, zC]); (try refine eagerXOpen rfl ?_)))
   (refine wpEagerX_op (by rfl) (fun K hK => ?_); go_simp; (refine (xkeptV y2 (HXR.out.below HY2.out) k hlt).mono ?_; rintro e y3 ⟨p3, c3, rfl, ho, hb3⟩; have HO3 := Lib.hid ho; have HY3 := Lib.hid (HY2.out.trans (hb3.mono HY2.out.size)); have hsub : ∀ x, Below y3.heap.size y3 x → Below y2.heap.size y2 x := fun x hx => hb3.trans (hx.mono hb3.size); have hy3 : Below y3.heap.size y3 y3 := Below.refl _ _; clear ho); refine Shut.out hK _ _ _ hsub (by assumption) ?_; clear hK K hsub; (try simp only [Act.put, zA, zB, zC]); (try refine eagerXOpen rfl ?_))
   have HC3 : Hid (∀ w', Below y3.heap.size y3 w' → (convert 22 9 (.slice p3 (fD d k).kept.length c3)).run Tryz.prog w' = .ok (.string (S (fD d k).kept)) w') := fun w' hb => bconv (HO3.out.below hb)
   repeat (first
    | (apply wpEagerX_take; (· rfl); (· (intro w' hb'; have hk' := (fun w' hb => HC3.out w' hb) w' hb'; go_split_ands; go_simp; try with_reducible rfl)); (try simp only [Act.put, zA, zB, zC]); (try refine eagerXOpen rfl ?_))
    | ((first | (apply wpEagerX_take; (· rfl); (· (intro w' hb'; go_simp; try with_reducible rfl))) | refine wpEagerX_skip (by rfl) ?_ | refine wpEager_off (by rfl) ?_); (try simp only [Act.put, zA, zB, zC]); (try refine eagerXOpen rfl ?_)))
   refine eagerXEnd ?_
   clear HC1 HC2 HC3 HC4 HC42 HKP HKP2 hy0 hy1 hy2 hy3 HO1 HO2 HO3 HLF HFA HNB HT HF HXR HRR
   have HBW2 := Lib.hid (HBW.out.trans (HY3.out.mono HBW.out.size))
   clear HY1 HY2 HY3 HBW
   go_wp2_with fail
   go_roundw
   case rel => exact ⟨k + 1, by omega, by go_num, HBW2.out⟩
   case measure => simp [intOf]; omega
  ·obtain rfl : k = 3 := by omega
   have hd : decide ((3 : Int) < (3 : Int)) = false := by decide
   have HB2 := Lib.hid (HB1.out.trans (HBW.out.mono HB1.out.size))
   have hsn := vsnap_any wr (HXV.out.below HBW.out) (by have := HBL.out; omega)
   unfold SnapP at hsn
   have HSN := Lib.hid hsn
   clear hsn
   go_upto_region 6 with fail
   go_wp2_with fail
   refine HSN.out.mono ?_
   rintro e wG ⟨p6, c6, rfl, ho6, hb6⟩
   have HBG := Lib.hid (HBW.out.trans (hb6.mono HBW.out.size))
   have HB3 := Lib.hid (HB2.out.trans (hb6.mono HB2.out.size))
   have HO6 := Lib.hid (own_bs ho6)
   have HXG := Lib.hid (HXV.out.below HBG.out)
   have HRG := Lib.hid (HRV.out.below HBG.out)
   have HRW := Lib.hid (Below.keepOld HBG.out HROW.out)
   clear ho6 hb6 HSN HBW HB2 HXV HX HRV HROW HB1 HBG
   have HC1 : Hid (∀ w', Below wG.heap.size wG w' → (convert 22 9 (.slice p6 v.body.length c6)).run Tryz.prog w' = .ok (.string (S v.body)) w') := fun w' hb => bconv (HO6.out.below hb)
   have HC2 : Hid (∀ w', Below wG.heap.size wG w' → (convert 22 9 (.slice pb v.body.length cb)).run Tryz.prog w' = .ok (.string (S v.body)) w') := fun w' hb => bconv (HRG.out.vb.below hb).bs
   have HK : Hid (∀ w', Below wG.heap.size wG w' → w'.cell? ⟨w.heap.size, 14, none⟩ = some (.int .u64 (v.last : Int)) ∧ w'.cell? ⟨w.heap.size, 15, none⟩ = some (.bool v.some) ∧ w'.cell? ⟨w.heap.size, 16, none⟩ = some (.slice pb v.body.length cb) ∧ w'.cell? ⟨w.heap.size, 17, none⟩ = some (.slice pa v.after.length ca)) := fun w' hb => rv_cells HN3.out HM3.out (Below.keepOld hb HRW.out)
   have HC8 : Hid (∀ w', Below wG.heap.size wG w' → w'.cell? ⟨w.heap.size, 8, none⟩ = some (.bool d.down)) := fun w' hb => rv_down HN3.out HM3.out (Below.keepOld hb HRW.out)
   have hqs : (v.some == v.some) = true := beq_self_eq_true _
   have hqn : (IntKind.u64.wrap ((v.last : Int) + 1) == IntKind.u64.wrap ((v.last : Int) + 1)) = true := beq_self_eq_true _
   have hqz : (((fD d 0).now.length : Int) == ((fD d 0).now.length : Int)) = true := beq_self_eq_true _
   have hq3 : (d.down == d.down) = true := beq_self_eq_true _
   go_upto_region 7 with fail
   refine wp_region_eager [(0, true), (1, true), (2, true), (3, true), (4, true), (5, true), (6, true), (7, true), (8, true), (9, true), (10, true), (11, true), (12, true), (13, true), (15, true), (16, true), (14, false), (17, false), (18, true), (19, true), (20, true), (22, true), (23, true), (24, true), (21, false), (25, true), (26, true), (27, true), (28, true), (30, true), (29, false), (31, false), (32, true), (33, true), (34, true), (35, true), (37, true), (38, true), (39, true), (36, false), (40, true), (41, true), (42, true)] (by kernel_rfl) (by kernel_rfl) (eagerOpen rfl ?_)
   have hy0 : Below wG.heap.size wG wG.drew := below_drew1 _ _
   repeat (first
    | (apply wpEager_take; (· rfl); (· (intro w' hb'; have hk' := (fun w' hb => HC1.out w' hb) w' hb'; go_split_ands; go_simp; try with_reducible rfl)); (try simp only [Act.put, zA, zB, zC]); (try refine eagerOpen rfl ?_))
    | (apply wpEager_take; (· rfl); (· (intro w' hb'; have hk' := (fun w' hb => HC2.out w' hb) w' hb'; go_split_ands; go_simp; try with_reducible rfl)); (try simp only [Act.put, zA, zB, zC]); (try refine eagerOpen rfl ?_))
    | (apply wpEager_take; (· rfl); (· (intro w' hb'; have hk' := (fun w' hb => HK.out w' hb) w' hb'; go_split_ands; go_simp; try with_reducible rfl)); (try simp only [Act.put, zA, zB, zC]); (try refine eagerOpen rfl ?_))
    | ((first | (apply wpEager_take; (· rfl); (· (intro w' hb'; go_simp; try with_reducible rfl))) | refine wpEager_skip (by rfl) ?_ | refine wpEager_off (by rfl) ?_); (try simp only [Act.put, zA, zB, zC]); (try refine eagerOpen rfl ?_)))
   have hre := vrecs_any wG.drew (HXG.out.below hy0) HAL.out HAX.out
   unfold RecsP at hre
   have HRE := Lib.hid hre
   clear hre
   (refine wpEager_op (by rfl) (fun K hK => ?_); go_simp; (refine HRE.out.mono ?_; rintro e y ⟨p7, c7, rfl, ho7, hb7⟩; have HY1 := Lib.hid (hy0.trans (hb7.mono hy0.size)); have hy1 : Below wG.heap.size wG y := HY1.out; have HLS := Lib.hid ho7; clear ho7 hb7 HRE); refine Shut.out hK _ _ (by assumption) ?_; clear hK K; (try simp only [Act.put, zA, zB, zC]); (try refine eagerOpen rfl ?_))
   have HPT : Hid (Pts y p7 v.after.length c7 v.after) := by
    obtain ⟨p', c', e1, h1⟩ := HLS.out.ls.sl
    cases e1
    exact h1
   have HPR : Hid (Pts y pa v.after.length ca v.after) := by
    obtain ⟨p', c', e1, h1⟩ := (HRG.out.af.below HY1.out).sl
    cases e1
    exact h1
   have hsm := Frm.same_any p7 pa v.after.length c7 v.after.length ca v.after v.after y HPT.out HPR.out
   rw [beq_self_eq_true] at hsm
   have HSM := Lib.hid hsm
   clear hsm
   repeat (first
    | (apply wpEager_take; (· rfl); (· (intro w' hb'; have hk' := (fun w' hb => HK.out w' hb) w' hb'; go_split_ands; go_simp; try with_reducible rfl)); (try simp only [Act.put, zA, zB, zC]); (try refine eagerOpen rfl ?_))
    | ((first | (apply wpEager_take; (· rfl); (· (intro w' hb'; go_simp; try with_reducible rfl))) | refine wpEager_skip (by rfl) ?_ | refine wpEager_off (by rfl) ?_); (try simp only [Act.put, zA, zB, zC]); (try refine eagerOpen rfl ?_)))
   (refine wpEager_op (by rfl) (fun K hK => ?_); go_simp; (refine HSM.out.mono ?_; rintro e y2 ⟨rfl, hb8⟩; have HY2 := Lib.hid (HY1.out.trans (hb8.mono HY1.out.size)); have hy2 : Below wG.heap.size wG y2 := HY2.out; clear hb8 HSM); refine Shut.out hK _ _ (by assumption) ?_; clear hK K; (try simp only [Act.put, zA, zB, zC]); (try refine eagerOpen rfl ?_))
   repeat (first
    | (apply wpEager_take; (· rfl); (· (intro w' hb'; have hk' := (fun w' hb => HK.out w' hb) w' hb'; go_split_ands; go_simp; try with_reducible rfl)); (try simp only [Act.put, zA, zB, zC]); (try refine eagerOpen rfl ?_))
    | ((first | (apply wpEager_take; (· rfl); (· (intro w' hb'; go_simp; try with_reducible rfl))) | refine wpEager_skip (by rfl) ?_ | refine wpEager_off (by rfl) ?_); (try simp only [Act.put, zA, zB, zC]); (try refine eagerOpen rfl ?_)))
   (refine wpEager_op (by rfl) (fun K hK => ?_); go_simp; (refine (vnextw_any _ (HXG.out.below HY2.out)).mono ?_; rintro e y3 ⟨rfl, rfl⟩); refine Shut.out hK _ _ (by assumption) ?_; clear hK K; (try simp only [Act.put, zA, zB, zC]); (try refine eagerOpen rfl ?_))
   repeat (first
    | (apply wpEager_take; (· rfl); (· (intro w' hb'; have hk' := (fun w' hb => HK.out w' hb) w' hb'; go_split_ands; go_simp; try with_reducible rfl)); (try simp only [Act.put, zA, zB, zC]); (try refine eagerOpen rfl ?_))
    | ((first | (apply wpEager_take; (· rfl); (· (intro w' hb'; go_simp; try with_reducible rfl))) | refine wpEager_skip (by rfl) ?_ | refine wpEager_off (by rfl) ?_); (try simp only [Act.put, zA, zB, zC]); (try refine eagerOpen rfl ?_)))
   (refine wpEager_op (by rfl) (fun K hK => ?_); go_simp; (refine (vsize_any _ (HXG.out.below HY2.out)).mono ?_; rintro e y3 ⟨rfl, hb9⟩; have HY3 := Lib.hid (HY2.out.trans (hb9.mono HY2.out.size)); have hy3 : Below wG.heap.size wG y3 := HY3.out; clear hb9); refine Shut.out hK _ _ (by assumption) ?_; clear hK K; (try simp only [Act.put, zA, zB, zC]); (try refine eagerOpen rfl ?_))
   repeat (first
    | ((first | (apply wpEager_take; (· rfl); (· (intro w' hb'; go_simp; try with_reducible rfl))) | refine wpEager_skip (by rfl) ?_ | refine wpEager_off (by rfl) ?_); (try simp only [Act.put, zA, zB, zC]); (try refine eagerOpen rfl ?_)))
   (refine wpEager_op (by rfl) (fun K hK => ?_); go_simp; (refine (xsize _ (HXG.out.below HY3.out).dxV 0 (by omega)).mono ?_; rintro e y4 ⟨rfl, hb10⟩; have HY4 := Lib.hid (HY3.out.trans (hb10.mono HY3.out.size)); have hy4 : Below wG.heap.size wG y4 := HY4.out; clear hb10); refine Shut.out hK _ _ (by assumption) ?_; clear hK K; (try simp only [Act.put, zA, zB, zC]); (try refine eagerOpen rfl ?_))
   repeat (first
    | (apply wpEager_take; (· rfl); (· (intro w' hb'; have hk' := (fun w' hb => HC8.out w' hb) w' hb'; go_split_ands; go_simp; try with_reducible rfl)); (try simp only [Act.put, zA, zB, zC]); (try refine eagerOpen rfl ?_))
    | ((first | (apply wpEager_take; (· rfl); (· (intro w' hb'; go_simp; try with_reducible rfl))) | refine wpEager_skip (by rfl) ?_ | refine wpEager_off (by rfl) ?_); (try simp only [Act.put, zA, zB, zC]); (try refine eagerOpen rfl ?_)))
   (refine wpEager_op (by rfl) (fun K hK => ?_); go_simp; (refine (xdownS _ (HXG.out.below HY4.out).dxV).mono ?_; rintro e y5 ⟨rfl, rfl⟩); refine Shut.out hK _ _ (by assumption) ?_; clear hK K; (try simp only [Act.put, zA, zB, zC]); (try refine eagerOpen rfl ?_))
   repeat (first
    | ((first | (apply wpEager_take; (· rfl); (· (intro w' hb'; go_simp; try with_reducible rfl))) | refine wpEager_skip (by rfl) ?_ | refine wpEager_off (by rfl) ?_); (try simp only [Act.put, zA, zB, zC]); (try refine eagerOpen rfl ?_)))
   refine eagerEnd ?_
   have HB4 := Lib.hid (HB3.out.trans (HY4.out.mono HB3.out.size))
   clear hy0 hy1 hy2 hy3 hy4
   go_wp2_with fail
   go_ret
   exact ⟨rfl, HB4.out⟩
end Go.Proofs.YtnejjfglkindjaaGreatDoor.Vlt
namespace Go.Proofs.YtnejjfglkindjaaGreatDoor.Vlt
open Go.RowKit Go.Mir Go.Mir.Parts Dk Rol Wr Slt Cut Rk
open Frm (frame scan)
theorem kr_of_kv {base : Nat} {a b : World} (h : KV base a b) : KR 0 a b := h.imp (fun k _ ⟨_, M, t, fr, hm, ht⟩ => ⟨M, t, fr, hm, by
 rcases ht with rfl | rfl | rfl | rfl | rfl
 ·exact ⟨by decide, by decide⟩
 ·exact ⟨by decide, by decide⟩
 ·exact ⟨by decide, by decide⟩
 ·exact ⟨by decide, by decide⟩
 ·exact ⟨by decide, by decide⟩⟩)
theorem XW.off {S : Nat → Prop} {base rb sb db vb : Nat} {d : DD} {s : SS} {v : VS} {pb pa : Option Addr} {cb ca : Nat} {w w' : World} (h : XW base rb sb db vb d s v pb cb pa ca w) (ht : Turns S w w') (hS : ∀ k M t fr, S k → w.heap[k]? = some (.cells M t fr) → t = 76) : XW base rb sb db vb d s v pb cb pa ca w' := by
 have hty : ∀ k M t fr, S k → w.heap[k]? = some (.cells M t fr) → t ≠ 105 ∧ t ≠ 165 ∧ t ≠ 133 ∧ t ≠ 5 ∧ t ≠ 23 ∧ t ≠ 136 ∧ t ≠ 33 ∧ t ≠ 22 := fun k M t fr hk hm => by
  have := hS k M t fr hk hm
  subst this
  exact ⟨by decide, by decide, by decide, by decide, by decide, by decide, by decide, by decide⟩
 refine ⟨sx_turn h.sx ht (fun k M t fr hk hm => ?_), ht.keep h.rol (fun hk => ?_), h.low, h.last, ht.keep h.row (fun hk => ?_), h.rd.touch ht (fun k M fr hm hk => ?_), lsO_turn h.ls ht (fun k M t fr hk hm => ?_)⟩
 ·obtain ⟨a, b, c, d, e, _⟩ := hty k M t fr hk hm
  exact ⟨a, b, c, d, e⟩
 ·exact (hty _ _ _ _ hk h.rol).2.2.2.2.2.1 rfl
 ·exact (hty _ _ _ _ hk h.row).2.2.2.2.2.2.1 rfl
 ·exact (hty _ _ _ _ hk hm).2.2.2.1 rfl
 ·obtain ⟨_, _, _, d, _, _, _, e⟩ := hty k M t fr hk hm
  exact ⟨e, d⟩
structure LV (base rb sb db vb rg : Nat) (d : DD) (s : SS) (v : VS) (pb : Option Addr) (cb : Nat) (pa : Option Addr) (ca : Nat) (T : List RF) (rs : Option Addr) (rk : Nat) (qb : Option Addr) (kb : Nat) (qa : Option Addr) (ka : Nat) (W wr : World) : Prop where
 xw : XW base rb sb db vb d s v pb cb pa ca wr
 row : wr.heap[rg]? = some (.cells (rvA T d s rs rk v qb kb qa ka) 76 (0, 0))
 rv : RVR wr T d s rs rk v qb kb qa ka
 ne : ∀ k, (Value.slice pa v.after.length ca).ownBlock = some k → ¬ (Value.slice qa v.after.length ka).ownBlock = some k
 low : Below base W wr
 at_ : base ≤ rg
variable {base rb sb db vb rg : Nat} {d d' : DD} {s s' : SS} {v v' : VS} {pb : Option Addr} {cb : Nat} {pa pa' : Option Addr} {ca ca' : Nat} {T T' : List RF} {rs rs' : Option Addr} {rk rk' : Nat} {qb qb' : Option Addr} {kb kb' : Nat} {qa qa' : Option Addr} {ka ka' : Nat} {W wr wA wB : World} {pb' : Option Addr} {cb' : Nat}
theorem LV.next (h : LV base rb sb db vb rg d s v pb cb pa ca T rs rk qb kb qa ka W wr) (hb : Below wr.heap.size wr wA) : LV base rb sb db vb rg d s v pb cb pa ca T rs rk qb kb qa ka W wA :=
 ⟨h.xw.below hb, Below.keepOld hb h.row, h.rv.below hb, h.ne, h.low.trans (hb.mono (Nat.le_trans h.xw.sx.dx.1 (Nat.le_refl _))), h.at_⟩
theorem LV.store {M : Array Value} (hx : XW base rb sb db vb d s v pb cb pa ca wA) (hr : wA.heap[rg]? = some (.cells M 76 (0, 0))) (hv : RVR wA T d s rs rk v qb kb qa ka) (hn : ∀ k, (Value.slice pa v.after.length ca).ownBlock = some k → ¬ (Value.slice qa v.after.length ka).ownBlock = some k) (hl : Below base W wA) (ha : base ≤ rg) :
  LV base rb sb db vb rg d s v pb cb pa ca T rs rk qb kb qa ka W (wA.setRow rg (rvA T d s rs rk v qb kb qa ka)) := by
 have ht := turns_setRow wA rg (rvA T d s rs rk v qb kb qa ka)
 refine ⟨hx.off ht (fun k M' t fr hk hm => ?_), setRow_heap _ _ _ _ _ _ hr, box_off hv hr, hn, below_setRow hl ha _, ha⟩
 have hk : k = rg := hk
 subst hk
 rw [hr] at hm
 injection hm with e1
 injection e1 with _ e2
 exact e2.symm
end Go.Proofs.YtnejjfglkindjaaGreatDoor.Vlt
namespace Go.Proofs.YtnejjfglkindjaaGreatDoor.Vlt
open Go.RowKit Go.Mir Go.Mir.Parts Dk Rol Wr Slt Cut Rk
open Frm (frame scan)
def T0V : List RF := [⟨none, 0, none, 0⟩, ⟨none, 0, none, 0⟩, ⟨none, 0, none, 0⟩]
theorem rb_noneV (w : World) : Rb 0 w ⟨none, 0, none, 0⟩ FD.none := ⟨[], fun _y _ =>
 ⟨Cut.own_bs (World.ownsRow_nil _ 0 _ _), ⟨Sl.nil _ _, fun _ h => (nomatch h), rfl⟩, fun _i _r _s h => (nomatch h), ⟨rfl, trivial, fun _u => Nat.le_refl _, Nat.le_refl _, fun _s hs => (nomatch hs)⟩, Nat.zero_le _⟩⟩
theorem rdb_newV (w : World) (room : Nat) (h : 1 ≤ room ∧ room ≤ 65536) : RDB w T0V (DD.new room) := by
 refine ⟨rfl, rfl, fun i t f a b => ?_, h, Nat.zero_le _, Nat.zero_le _⟩
 match i, a, b with
 | 0, a, b => cases a; cases b; exact ⟨rb_noneV w, nd_none⟩
 | 1, a, b => cases a; cases b; exact ⟨rb_noneV w, nd_none⟩
 | 2, a, b => cases a; cases b; exact ⟨rb_noneV w, nd_none⟩
 | i + 3, a, b => cases a
theorem built_rdV (room : Nat) : Tryz.prog.built 65 [(1, .int .i64 (room : Int))] = some (rdA T0V (DD.new room)) := by kernel_rfl
theorem LV.disk {base rb sb db vb rg : Nat} {d d' : DD} {s : SS} {v : VS} {pb : Option Addr} {cb : Nat} {pa : Option Addr} {ca : Nat} {T T' : List RF} {rs : Option Addr} {rk : Nat} {qb : Option Addr} {kb : Nat} {qa : Option Addr} {ka : Nat} {W wB : World} (hx : XW base rb sb db vb d' s v pb cb pa ca wB) (hr : wB.heap[rg]? = some (.cells (rvA T d s rs rk v qb kb qa ka) 76 (0, 0))) (hv : RVR wB T d s rs rk v qb kb qa ka) (hd : RDB wB T' d') (hn : ∀ k, (Value.slice pa v.after.length ca).ownBlock = some k → ¬ (Value.slice qa v.after.length ka).ownBlock = some k) (hl : Below base W wB) (ha : base ≤ rg) :
  LV base rb sb db vb rg d' s v pb cb pa ca T' rs rk qb kb qa ka W (wB.setCells rg 0 (rdA T' d').toList) := by
 obtain ⟨q1, q2, q3⟩ := rv_store0 hv.rd.n3 hv.rd.m3 hr hd hv
 refine ⟨hx.off q3 (fun k M' t fr hk hm => ?_), q1, q2, hn, hl.trans ((q3.below (Nat.le_trans ha (Nat.le_of_lt (Array.getElem?_eq_some_iff.1 hr).1)) (fun i hi => by have hi : i = rg := hi; omega))), ha⟩
 have hk : k = rg := hk
 subst hk
 rw [hr] at hm
 injection hm with e1
 injection e1 with _ e2
 exact e2.symm
end Go.Proofs.YtnejjfglkindjaaGreatDoor.Vlt
namespace Go.Proofs.YtnejjfglkindjaaGreatDoor.Vlt
open Go.RowKit Go.Mir Go.Mir.Parts Dk Rol Wr Slt Cut Rk
open Frm (frame scan)
structure LO (w db rg : Nat) (d : DD) (T : List RF) (N : Nat) (W wr : World) : Prop where
 dx : DX w db d wr
 row : wr.heap[rg]? = some (.cells (rdA T d) 65 (0, 0))
 rd : RDB wr T d
 few : FewD d N
 up : d.down = false ∧ d.fuse = 0
 low : Below w W wr
 at_ : w ≤ rg
variable {B db rg : Nat} {d d' : DD} {T T' : List RF} {N M : Nat} {W wr wA wB : World}
theorem LO.next (h : LO B db rg d T N W wr) (hb : Below wr.heap.size wr wA) : LO B db rg d T N W wA :=
 ⟨h.dx.below hb, Below.keepOld hb h.row, h.rd.below hb, h.few, h.up, h.low.trans (hb.mono h.dx.1), h.at_⟩
theorem LO.kt (h : LO B db rg d T N W wr) (hk : KT B wr wA) (hd : DX B db d' wA) : DX B db d' wA ∧ wA.heap[rg]? = some (.cells (rdA T d) 65 (0, 0)) ∧ RDB wA T d ∧ Below B W wA :=
 ⟨hd, hk.row h.row (by decide) (by decide), h.rd.step (kr_of_kv (KV.of_kt hk)), h.low.trans (hk.below h.dx.1)⟩
theorem LO.store {A0 : Array Value} (hd : DX B db d' wA) (hr : wA.heap[rg]? = some (.cells A0 65 (0, 0))) (hv : RDB wA T' d') (hf : FewD d' M) (hu : d'.down = false ∧ d'.fuse = 0) (hl : Below B W wA) (ha : B ≤ rg) : LO B db rg d' T' M W (wA.setRow rg (rdA T' d')) := by
 have ht := turns_setRow wA rg (rdA T' d')
 refine ⟨dx_turn hd ht (fun k M t fr hk hm => ?_), setRow_heap _ _ _ _ _ _ hr, hv.step (kr_turn ht hr (by decide) (by decide)), hf, hu, below_setRow hl ha _, ha⟩
 have hk : k = rg := hk
 subst hk
 rw [hr] at hm
 injection hm with e1
 injection e1 with _ e2
 subst e2
 exact ⟨by decide, by decide, by decide⟩
set_option maxRecDepth 100000 in
set_option maxHeartbeats 12800000 in
theorem law_opens22 (pn : Option Addr) (cn : Nat) (us : List Nat) (pr : Option Addr) (cr : Nat) (ls : List (List UInt8)) (ps : Option Addr) (cs : Nat) (sn : List UInt8) (w : World) (hE : Rdr.EType w) (hU : Us w pn us.length cn us) (hP : Pts w pr ls.length cr ls) (hS : Bs w ps sn.length cs sn) :
  Calls Tryz.prog 5 #[.slice pn us.length cn, .slice pr ls.length cr, .slice ps sn.length cs] w fun e w' => e = .returned (.bool true) ∧ Below w.heap.size w w' := by
 have HE := Lib.hid hE
 have HG : Hid (0 < w.heap.size) := hE.lt
 have HU := Lib.hid hU
 have HP := Lib.hid hP
 have HS := Lib.hid hS
 have HE1 : Hid (∀ y, Below w.heap.size w y → Rdr.EType y) := fun y hy => HE.out.below hy HE.out.lt
 have hnw : Calls Tryz.prog 16 #[.int .i64 65536] w fun e w' => ∃ db, e = .returned (.tuple #[.pointer (some ⟨db, 0, none⟩), .int .i64 0]) ∧ DX w.heap.size db (DD.new 65536) w' ∧ Below w.heap.size w w' := snew 65536 w (by omega)
 have HNW := Lib.hid hnw
 have u1 := hU.sl.le
 have u2 := hU.sl.max
 have r1 := hP.le
 have r2 := hP.max
 have s1 := hS.le
 have s2 := hS.max
 have hz := zeroD
 have hz2 := zeroRV
 clear hE hU hP hS hnw
 go_enter Tryz.func5, Tryz.ntmps5
 go_wp2_with fail
 refine HNW.out.mono ?_
 rintro e w2 ⟨db, rfl, hd2, hb2⟩
 have HX2 := Lib.hid hd2
 have HW2 := Lib.hid hb2
 have HE2 := Lib.hid (HE1.out w2 hb2)
 clear hd2 hb2 HNW
 by_cases g1 : 30 < us.length
 ·have d1 : decide ((30 : Int) < (us.length : Int)) = true := decide_eq_true (by omega)
  have d1' : decide (30 < us.length) = true := decide_eq_true g1
  clear g1
  skip
  have HA := Lib.hid (alive22_any w2 HE2.out)
  go_wp2_with fail
  refine HA.out.mono ?_
  rintro e w9 ⟨rfl, hb9⟩
  have HB9 := Lib.hid (HW2.out.trans (hb9.mono HW2.out.size))
  go_wp2_with fail
  go_ret
  exact ⟨rfl, HB9.out⟩
 have d1 : decide ((30 : Int) < (us.length : Int)) = false := decide_eq_false (by omega)
 have d1' : decide (30 < us.length) = false := decide_eq_false g1
 by_cases g2 : 30 < ls.length
 ·have d2 : decide ((30 : Int) < (ls.length : Int)) = true := decide_eq_true (by omega)
  have d2' : decide (30 < ls.length) = true := decide_eq_true g2
  clear g1 g2
  skip
  have HA := Lib.hid (alive22_any w2 HE2.out)
  go_wp2_with fail
  refine HA.out.mono ?_
  rintro e w9 ⟨rfl, hb9⟩
  have HB9 := Lib.hid (HW2.out.trans (hb9.mono HW2.out.size))
  go_wp2_with fail
  go_ret
  exact ⟨rfl, HB9.out⟩
 have d2 : decide ((30 : Int) < (ls.length : Int)) = false := decide_eq_false (by omega)
 have d2' : decide (30 < ls.length) = false := decide_eq_false g2
 by_cases g3 : 300 < sn.length
 ·have d3 : decide ((300 : Int) < (sn.length : Int)) = true := decide_eq_true (by omega)
  have d3' : decide (300 < sn.length) = true := decide_eq_true g3
  clear g1 g2 g3
  skip
  have HA := Lib.hid (alive22_any w2 HE2.out)
  go_wp2_with fail
  refine HA.out.mono ?_
  rintro e w9 ⟨rfl, hb9⟩
  have HB9 := Lib.hid (HW2.out.trans (hb9.mono HW2.out.size))
  go_wp2_with fail
  go_ret
  exact ⟨rfl, HB9.out⟩
 have d3 : decide ((300 : Int) < (sn.length : Int)) = false := decide_eq_false (by omega)
 have d3' : decide (300 < sn.length) = false := decide_eq_false g3
 have HL1 : Hid (ls.length ≤ 30) := by show _ ≤ _; omega
 have HL2 : Hid (sn.length ≤ 300) := by show _ ≤ _; omega
 clear g1 g2 g3
 have hal := Below.allocs w2 (.cells zD 65)
 have hnew := heap_alloc_last w2 (.cells zD 65)
 have hR := rdb_newV w2 65536 (by omega)
 have hLO0 : LO w.heap.size db w2.heap.size (DD.new 65536) T0V 0 w ((w2.alloc (.cells zD 65)).setRow w2.heap.size (rdA T0V (DD.new 65536))) :=
  LO.store (HX2.out.below hal) hnew (hR.below hal) (fun f hf => by
   have : f = FD.none := by simpa [DD.new] using hf
   subst this; exact Nat.zero_le _) ⟨rfl, rfl⟩ (HW2.out.trans (hal.mono HW2.out.size)) HW2.out.size
 have HLO0 := Lib.hid hLO0
 have NEW := Lib.hid hnew
 have HSZ : Hid ((rdA T0V (DD.new 65536)).size = 9) := rdA_size hR.n3 hR.m3
 have HON := Lib.hid (rdA_one hR.n3 hR.m3)
 have hbu : Tryz.prog.built 65 [(1, .int .i64 65536)] = some (rdA T0V (DD.new 65536)) := built_rdV 65536
 clear hal hnew hR hLO0 HX2
 go_upto_region 5 with (first
  | refine Rdr.wpList_build rfl 65 _ rfl [(1, .int .i64 65536)] rfl _ hbu ?_
  | refine wpList_store_row rfl 65 _ _ rfl w2.heap.size (rdA T0V (DD.new 65536)) rfl rfl 65 zD NEW.out (infoRD _ HSZ.out) (by rw [HSZ.out]; rfl) HON.out ?_)
 try simp only [Act.put]
 clear NEW HSZ HON hbu d1 d1' d2 d2' d3 d3'
 generalize (w2.alloc (.cells zD 65)).setRow w2.heap.size (rdA T0V (DD.new 65536)) = w3 at *
 generalize w2.heap.size = rg at *
 generalize DD.new 65536 = D0 at *
 go_wp2_with fail
 go_loopw [10, 11, 12, 13, 44] (fun _ _ _ _ j wr => ∃ (i : Nat) (d : DD) (T : List RF), i ≤ ls.length ∧ j = .int .i64 i ∧ LO w.heap.size db rg d T i w wr) (fun _ _ _ _ j _ => ls.length - (intOf j).toNat)
 case atStart => exact ⟨0, D0, T0V, Nat.zero_le _, rfl, HLO0.out⟩
 case round =>
  clear HLO0
  obtain ⟨i, d, T, hi, rfl, hlo⟩ := hrel
  have HLO := Lib.hid hlo
  have HNL : Hid (i ≤ 30) := by show _ ≤ _; have := HL1.out; omega
  clear hlo
  by_cases hlt : i < ls.length
  ·have hd : decide ((i : Int) < (ls.length : Int)) = true := decide_eq_true (by omega)
   have hd2 : decide (i < ls.length) = true := decide_eq_true hlt
   obtain ⟨b, o, rfl⟩ := HP.out.addr (by omega)
   obtain ⟨q, m, dd, e1, f1⟩ := (HP.out.below HLO.out.low).cell _ rfl i hlt
   rw [add_none] at e1
   have HIL : Hid (i + 1 ≤ ls.length) := hlt
   generalize ls[i]'hlt = X at *
   obtain rfl : X.length = m := f1.length
   have HFX0 := Lib.hid f1
   have x1 := f1.le
   have x2 := f1.max
   clear f1
   by_cases hX : 100 < X.length
   ·have d4 : decide ((100 : Int) < (X.length : Int)) = true := decide_eq_true (by omega)
    have d4' : decide (100 < X.length) = true := decide_eq_true hX
    have HBX := Lib.hid HLO.out.low
    have HEX := Lib.hid (HE1.out wr HLO.out.low)
    clear hX
    skip
    have HA := Lib.hid (alive22_any wr HEX.out)
    go_wp2_with fail
    refine HA.out.mono ?_
    rintro e w9 ⟨rfl, hb9⟩
    have HB9 := Lib.hid (HBX.out.trans (hb9.mono HBX.out.size))
    go_wp2_with fail
    go_ret
    exact ⟨rfl, HB9.out⟩
   have d4 : decide ((100 : Int) < (X.length : Int)) = false := decide_eq_false (by omega)
   have d4' : decide (100 < X.length) = false := decide_eq_false hX
   have HX100 : Hid (X.length ≤ 100) := by show _ ≤ _; omega
   clear hX
   by_cases hin : i < us.length
   ·have d5 : decide ((i : Int) < (us.length : Int)) = true := decide_eq_true (by omega)
    have d5' : decide (i < us.length) = true := decide_eq_true hin
    obtain ⟨ub, uo, rfl⟩ := HU.out.sl.addr (by omega) (by omega)
    have hcu := (HU.out.below HLO.out.low).at hin
    have hbd := HU.out.bd _ (List.getElem_mem hin)
    generalize us[i]'hin = NN at *
    have HNUM := Lib.hid (number8 wr NN hbd)
    clear hbd
    go_upto_region 11 with fail
    go_wp2_with fail
    refine HNUM.out.mono ?_
    rintro e wa ⟨p1, c1, rfl, ho1, hb1⟩
    have HO1 := Lib.hid ho1
    have HBa := Lib.hid hb1
    have HLOa := Lib.hid HLO.out
    have HXa := Lib.hid (HFX0.out.below hb1)
    have HSa : Hid (wr.heap.size ≤ wa.heap.size) := hb1.size
    clear ho1 hb1 HNUM HLO e1 hcu d5 d5' d4 d4' hin
    have hx9 := HX100.out
    go_wp2_with (at_builtin; refine wpList_append_nx rfl _ _ 22 rfl (base := wr.heap.size) Tryz.underlying22 info8 rfl (by omega) rfl HO1.out rfl HXa.out (bytesV_one _) ⟨by omega, by omega⟩ HSa.out ?_)
    intro p2 c2 wb ho2 hg2 _ _
    have hb2 := own_below HO1.out hg2 HSa.out
    have hlen : (be NN 8 ++ X).length = 8 + X.length := by rw [List.length_append, be_length]
    have hob : Bs wb p2 (be NN 8 ++ X).length c2 (be NN 8 ++ X) := by
     rw [hlen]
     rw [← bytesV_append] at ho2
     exact Cut.own_bs ho2
    have HLO : Hid (LO w.heap.size db rg d T i w wb) := HLOa.out.next (HBa.out.trans hb2)
    rw [← hlen]
    have HBO := Lib.hid hob
    have HBL : Hid ((be NN 8 ++ X).length ≤ 108) := by show _ ≤ _; rw [hlen]; have := HX100.out; omega
    clear ho2 hg2 hb2 hlen hob HO1 HLOa HXa HSa
    generalize be NN 8 ++ X = BO at *
    skip
    have HEN := Lib.hid (Frm.rencode_any p2 BO.length c2 BO wb HBO.out (by have := HBL.out; omega))
    have hxl : (Frm.enc BO).1.length ≤ 200 := by
     unfold Frm.enc
     split
     ·exact Nat.zero_le _
     ·show (frame BO).length ≤ _
      rw [Frm.frame_length]
      have := HBL.out
      omega
    have HXL0 := Lib.hid hxl
    obtain ⟨XB, hXB⟩ : ∃ XB, (Frm.enc BO).1 = XB := ⟨_, rfl⟩
    obtain ⟨XE, hXE⟩ : ∃ XE, (Frm.enc BO).2 = XE := ⟨_, rfl⟩
    rw [hXB, hXE] at HEN
    rw [hXB] at HXL0
    have HXL : Hid (XB.length ≤ 1000) := by show _ ≤ _; have := HXL0.out; omega
    clear hxl hXB hXE HXL0
    go_upto_region 12 with fail
    go_wp2_with fail
    refine HEN.out.mono ?_
    rintro e wZ ⟨p9, c9, rfl, ho, hb⟩
    have HFX := Lib.hid (RBs.own ho)
    have HLO2 := Lib.hid (HLO.out.next hb)
    clear ho hb HEN HLO
    have HLO := Lib.hid HLO2.out
    clear HLO2
    skip
    have HCA := Lib.hid (xappend wZ HLO.out.dx 0 (by omega) p9 XB.length c9 XB HFX.out.bs (by have := HXL.out; omega) (by have := fewfd (i := 0) HLO.out.few; have := HNL.out; omega))
    unfold StP at HCA
    have HCB : Hid (∀ y, RDB y T d → Bs y p9 XB.length c9 XB → Calls Tryz.prog 25 #[.agg (rdA T d), .int .i64 ((0 : Nat) : Int), .slice p9 XB.length c9] y (ROut (doD d 0 (fD d 0) (.put XB)) (doE d 0 (fD d 0) (.put XB)) y)) := fun y h1 h2 => rput_in T d 0 (by omega) p9 XB c9 y h1 HLO.out.dx.room.2.2 h2 (by have := HXL.out; omega) (by have := fewfd (i := 0) HLO.out.few; have := HNL.out; omega)
    unfold ROut at HCB
    have HFN : Hid (FewD (doD d 0 (fD d 0) (.put XB)) (i + 1)) := HLO.out.few.doD (fewfd HLO.out.few)
    have HUN : Hid ((doD d 0 (fD d 0) (.put XB)).down = false ∧ (doD d 0 (fD d 0) (.put XB)).fuse = 0) := do_up00 HLO.out.up
    generalize doD d 0 (fD d 0) (.put XB) = D9 at *
    generalize doE d 0 (fD d 0) (.put XB) = E9 at *
    go_upto_region 13 with fail
    go_wp2_with fail
    refine HCA.out.mono ?_
    rintro e wK ⟨rfl, hd1, hk1⟩
    obtain ⟨g1, g2, g3, g4⟩ := HLO.out.kt hk1 hd1
    have HG1 := Lib.hid g1
    have HG2 := Lib.hid g2
    have HG4 := Lib.hid g4
    have HCC := Lib.hid (HCB.out wK g3 (HFX.out.step (kr_of_kv (KV.of_kt hk1))).bs)
    have HT3 := Lib.hid HLO.out.rd.n3
    have HTM := Lib.hid HLO.out.rd.m3
    have HAT := Lib.hid HLO.out.at_
    clear g1 g2 g3 g4 hd1 hk1 HCA HCB HLO
    go_upto_region 14 with fail
    go_wp2_with (refine wpList_load_row rfl 65 _ rfl rg rfl 65 (rdA T d) (0, 0) _ HG2.out Tryz.underlying65 rfl (infoRD _ (rdA_size HT3.out HTM.out)) ?_)
    refine HCC.out.mono ?_
    rintro e wL ⟨TN, rfl, hrd, hbL⟩
    have hrow := Below.keepOld hbL HG2.out
    have HROWL := Lib.hid hrow
    have HN3 := Lib.hid hrd.n3
    have HM3 := Lib.hid hrd.m3
    have HLN := Lib.hid (LO.store (HG1.out.below hbL) hrow hrd HFN.out HUN.out (HG4.out.trans (hbL.mono HG4.out.size)) HAT.out)
    clear hrow hrd hbL HCC HG1 HG2 HG4 HFN HUN
    go_upto_region 15 with (refine wpList_store_row rfl 65 _ _ rfl rg (rdA TN D9) rfl rfl 65 (rdA T d) HROWL.out (infoRD _ (rdA_size HN3.out HM3.out)) (by rw [rdA_size HN3.out HM3.out, rdA_size HT3.out HTM.out]) (rdA_one HN3.out HM3.out) ?_)
    try simp only [Act.put]
    clear HROWL HN3 HM3 HT3 HTM HAT
    generalize wL.setRow rg (rdA TN D9) = wX at *
    go_wp2_with fail
    go_roundw
    case rel => exact ⟨i + 1, D9, TN, HIL.out, by go_num, HLN.out⟩
    case measure => have := HIL.out; simp [intOf]; omega
   ·have d5 : decide ((i : Int) < (us.length : Int)) = false := decide_eq_false (by omega)
    have d5' : decide (i < us.length) = false := decide_eq_false hin
    have HBO := Lib.hid HFX0.out
    have HBL : Hid (X.length ≤ 108) := by show _ ≤ _; have := HX100.out; omega
    clear hin
    skip
    have HEN := Lib.hid (Frm.rencode_any q X.length dd X wr HBO.out (by have := HBL.out; omega))
    have hxl : (Frm.enc X).1.length ≤ 200 := by
     unfold Frm.enc
     split
     ·exact Nat.zero_le _
     ·show (frame X).length ≤ _
      rw [Frm.frame_length]
      have := HBL.out
      omega
    have HXL0 := Lib.hid hxl
    obtain ⟨XB, hXB⟩ : ∃ XB, (Frm.enc X).1 = XB := ⟨_, rfl⟩
    obtain ⟨XE, hXE⟩ : ∃ XE, (Frm.enc X).2 = XE := ⟨_, rfl⟩
    rw [hXB, hXE] at HEN
    rw [hXB] at HXL0
    have HXL : Hid (XB.length ≤ 1000) := by show _ ≤ _; have := HXL0.out; omega
    clear hxl hXB hXE HXL0
    go_upto_region 12 with fail
    go_wp2_with fail
    refine HEN.out.mono ?_
    rintro e wZ ⟨p9, c9, rfl, ho, hb⟩
    have HFX := Lib.hid (RBs.own ho)
    have HLO2 := Lib.hid (HLO.out.next hb)
    clear ho hb HEN HLO
    have HLO := Lib.hid HLO2.out
    clear HLO2
    skip
    have HCA := Lib.hid (xappend wZ HLO.out.dx 0 (by omega) p9 XB.length c9 XB HFX.out.bs (by have := HXL.out; omega) (by have := fewfd (i := 0) HLO.out.few; have := HNL.out; omega))
    unfold StP at HCA
    have HCB : Hid (∀ y, RDB y T d → Bs y p9 XB.length c9 XB → Calls Tryz.prog 25 #[.agg (rdA T d), .int .i64 ((0 : Nat) : Int), .slice p9 XB.length c9] y (ROut (doD d 0 (fD d 0) (.put XB)) (doE d 0 (fD d 0) (.put XB)) y)) := fun y h1 h2 => rput_in T d 0 (by omega) p9 XB c9 y h1 HLO.out.dx.room.2.2 h2 (by have := HXL.out; omega) (by have := fewfd (i := 0) HLO.out.few; have := HNL.out; omega)
    unfold ROut at HCB
    have HFN : Hid (FewD (doD d 0 (fD d 0) (.put XB)) (i + 1)) := HLO.out.few.doD (fewfd HLO.out.few)
    have HUN : Hid ((doD d 0 (fD d 0) (.put XB)).down = false ∧ (doD d 0 (fD d 0) (.put XB)).fuse = 0) := do_up00 HLO.out.up
    generalize doD d 0 (fD d 0) (.put XB) = D9 at *
    generalize doE d 0 (fD d 0) (.put XB) = E9 at *
    go_upto_region 13 with fail
    go_wp2_with fail
    refine HCA.out.mono ?_
    rintro e wK ⟨rfl, hd1, hk1⟩
    obtain ⟨g1, g2, g3, g4⟩ := HLO.out.kt hk1 hd1
    have HG1 := Lib.hid g1
    have HG2 := Lib.hid g2
    have HG4 := Lib.hid g4
    have HCC := Lib.hid (HCB.out wK g3 (HFX.out.step (kr_of_kv (KV.of_kt hk1))).bs)
    have HT3 := Lib.hid HLO.out.rd.n3
    have HTM := Lib.hid HLO.out.rd.m3
    have HAT := Lib.hid HLO.out.at_
    clear g1 g2 g3 g4 hd1 hk1 HCA HCB HLO
    go_upto_region 14 with fail
    go_wp2_with (refine wpList_load_row rfl 65 _ rfl rg rfl 65 (rdA T d) (0, 0) _ HG2.out Tryz.underlying65 rfl (infoRD _ (rdA_size HT3.out HTM.out)) ?_)
    refine HCC.out.mono ?_
    rintro e wL ⟨TN, rfl, hrd, hbL⟩
    have hrow := Below.keepOld hbL HG2.out
    have HROWL := Lib.hid hrow
    have HN3 := Lib.hid hrd.n3
    have HM3 := Lib.hid hrd.m3
    have HLN := Lib.hid (LO.store (HG1.out.below hbL) hrow hrd HFN.out HUN.out (HG4.out.trans (hbL.mono HG4.out.size)) HAT.out)
    clear hrow hrd hbL HCC HG1 HG2 HG4 HFN HUN
    go_upto_region 15 with (refine wpList_store_row rfl 65 _ _ rfl rg (rdA TN D9) rfl rfl 65 (rdA T d) HROWL.out (infoRD _ (rdA_size HN3.out HM3.out)) (by rw [rdA_size HN3.out HM3.out, rdA_size HT3.out HTM.out]) (rdA_one HN3.out HM3.out) ?_)
    try simp only [Act.put]
    clear HROWL HN3 HM3 HT3 HTM HAT
    generalize wL.setRow rg (rdA TN D9) = wX at *
    go_wp2_with fail
    go_roundw
    case rel => exact ⟨i + 1, D9, TN, HIL.out, by go_num, HLN.out⟩
    case measure => have := HIL.out; simp [intOf]; omega
  ·have hd : decide ((i : Int) < (ls.length : Int)) = false := decide_eq_false (by omega)
   have hd2 : decide (i < ls.length) = false := decide_eq_false hlt
   by_cases h0 : 0 < sn.length
   ·have d6 : decide ((0 : Int) < (sn.length : Int)) = true := decide_eq_true (by omega)
    have d6' : decide (0 < sn.length) = true := decide_eq_true h0
    have hnu : Calls Tryz.prog 22 #[.int .u64 3, .int .i64 8] wr fun e w' => ∃ p c, e = .returned (.slice p 8 c) ∧ w'.ownsRow wr.heap.size 5 1 (.slice p 8 c) 8 (bytesV (be 3 8)) ∧ Below wr.heap.size wr w' := number8 wr 3 (by omega)
    have HNUM := Lib.hid hnu
    clear hnu h0
    go_upto_region 17 with fail
    go_wp2_with fail
    refine HNUM.out.mono ?_
    rintro e wa ⟨p1, c1, rfl, ho1, hb1⟩
    have HO1 := Lib.hid ho1
    have HBa := Lib.hid hb1
    have HLOa := Lib.hid HLO.out
    have HXa := Lib.hid ((HS.out.below HLOa.out.low).below hb1)
    have HSa : Hid (wr.heap.size ≤ wa.heap.size) := hb1.size
    clear ho1 hb1 HNUM HLO d6 d6' hd hd2
    have hl9 := HL2.out
    go_wp2_with (at_builtin; refine wpList_append_nx rfl _ _ 22 rfl (base := wr.heap.size) Tryz.underlying22 info8 rfl (by omega) rfl HO1.out rfl HXa.out (bytesV_one _) ⟨by omega, by omega⟩ HSa.out ?_)
    intro p2 c2 wb ho2 hg2 _ _
    have hb2 := own_below HO1.out hg2 HSa.out
    have hob : Bs wb p2 (8 + sn.length) c2 (be 3 8 ++ sn) := by
     rw [← bytesV_append] at ho2
     exact Cut.own_bs ho2
    have HLOb : Hid (LO w.heap.size db rg d T i w wb) := HLOa.out.next (HBa.out.trans hb2)
    have HFR := Lib.hid (Frm.rbytes_any p2 (8 + sn.length) c2 (be 3 8 ++ sn) wb hob (by have := HL2.out; omega))
    have hfl : (frame (be 3 8 ++ sn)).length ≤ 1000 := by rw [Frm.frame_length, List.length_append, be_length]; have := HL2.out; omega
    clear ho2 hg2 hb2 hob HO1 HLOa HXa HSa
    have HXL := Lib.hid hfl
    clear hfl
    generalize frame (be 3 8 ++ sn) = XB at *
    go_wp2_with fail
    refine HFR.out.mono ?_
    rintro e wc ⟨p9, c9, rfl, ho9, hb9⟩
    have HFX := Lib.hid (RBs.own ho9)
    have HLO := Lib.hid (HLOb.out.next hb9)
    clear ho9 hb9 HFR HLOb
    skip
    have HCA := Lib.hid (xappend wc HLO.out.dx 1 (by omega) p9 XB.length c9 XB HFX.out.bs (by have := HXL.out; omega) (by have := fewfd (i := 1) HLO.out.few; have := HNL.out; omega))
    unfold StP at HCA
    have HCB : Hid (∀ y, RDB y T d → Bs y p9 XB.length c9 XB → Calls Tryz.prog 25 #[.agg (rdA T d), .int .i64 ((1 : Nat) : Int), .slice p9 XB.length c9] y (ROut (doD d 1 (fD d 1) (.put XB)) (doE d 1 (fD d 1) (.put XB)) y)) := fun y h1 h2 => rput_in T d 1 (by omega) p9 XB c9 y h1 HLO.out.dx.room.2.2 h2 (by have := HXL.out; omega) (by have := fewfd (i := 1) HLO.out.few; have := HNL.out; omega)
    unfold ROut at HCB
    have HFN : Hid (FewD (doD d 1 (fD d 1) (.put XB)) (i + 1)) := HLO.out.few.doD (fewfd HLO.out.few)
    have HUN : Hid ((doD d 1 (fD d 1) (.put XB)).down = false ∧ (doD d 1 (fD d 1) (.put XB)).fuse = 0) := do_up00 HLO.out.up
    generalize doD d 1 (fD d 1) (.put XB) = D9 at *
    generalize doE d 1 (fD d 1) (.put XB) = E9 at *
    go_upto_region 18 with fail
    go_wp2_with fail
    refine HCA.out.mono ?_
    rintro e wK ⟨rfl, hd1, hk1⟩
    obtain ⟨g1, g2, g3, g4⟩ := HLO.out.kt hk1 hd1
    have HG1 := Lib.hid g1
    have HG2 := Lib.hid g2
    have HG4 := Lib.hid g4
    have HCC := Lib.hid (HCB.out wK g3 (HFX.out.step (kr_of_kv (KV.of_kt hk1))).bs)
    have HT3 := Lib.hid HLO.out.rd.n3
    have HTM := Lib.hid HLO.out.rd.m3
    have HAT := Lib.hid HLO.out.at_
    clear g1 g2 g3 g4 hd1 hk1 HCA HCB HLO
    go_upto_region 19 with fail
    go_wp2_with (refine wpList_load_row rfl 65 _ rfl rg rfl 65 (rdA T d) (0, 0) _ HG2.out Tryz.underlying65 rfl (infoRD _ (rdA_size HT3.out HTM.out)) ?_)
    refine HCC.out.mono ?_
    rintro e wL ⟨TN, rfl, hrd, hbL⟩
    have hrow := Below.keepOld hbL HG2.out
    have HROWL := Lib.hid hrow
    have HN3 := Lib.hid hrd.n3
    have HM3 := Lib.hid hrd.m3
    have HLN := Lib.hid (LO.store (HG1.out.below hbL) hrow hrd HFN.out HUN.out (HG4.out.trans (hbL.mono HG4.out.size)) HAT.out)
    clear hrow hrd hbL HCC HG1 HG2 HG4 HFN HUN
    go_upto_region 20 with (refine wpList_store_row rfl 65 _ _ rfl rg (rdA TN D9) rfl rfl 65 (rdA T d) HROWL.out (infoRD _ (rdA_size HN3.out HM3.out)) (by rw [rdA_size HN3.out HM3.out, rdA_size HT3.out HTM.out]) (rdA_one HN3.out HM3.out) ?_)
    try simp only [Act.put]
    clear HROWL HN3 HM3 HT3 HTM HAT
    generalize wL.setRow rg (rdA TN D9) = wX at *
    have HLO := HLN
    clear HLN
    have HNL2 : Hid (i + 1 ≤ 31) := by show _ ≤ _; have := HNL.out; omega
    skip
    have HVG := Lib.hid (vopeng_any wX (HE1.out wX HLO.out.low) HG.out HLO.out.dx HLO.out.up.1 (by have := fewfd (i := 0) HLO.out.few; have := HNL2.out; omega))
    have HRO : Hid (∀ y, RDB y TN D9 → Calls Tryz.prog 27 #[.agg (rdA TN D9)] y (RVOpP D9 y)) := fun y hy => rvopen_any TN D9 y hy HLO.out.up.1 HLO.out.dx.room.2.2 (by have := fewfd (i := 0) HLO.out.few; have := HNL2.out; omega)
    unfold RVOpP at HRO
    have HNW : Hid (∀ y, DX w.heap.size db (opnD D9 0) y → (fD (opnD D9 0) 0).now.length ≤ 65536) := fun y hy => by
     have h1 := hy.ok (i := 0) (by omega)
     have h2 := @need_le (opnD D9 0) 0 (by obtain ⟨_, vs, hd⟩ := hy; rw [hd.m3]; omega)
     have h3 := hy.room
     have h4 := h1.le
     omega
    go_upto_region 20 with fail
    go_wp2_with fail
    refine HVG.out.mono ?_
    rintro e wM ⟨hkt, hsay⟩
    have HROWM := Lib.hid (hkt.row HLO.out.row (by decide) (by decide))
    have hrdM := HLO.out.rd.step (kr_of_kv (KV.of_kt hkt))
    have HLM := Lib.hid (HLO.out.low.trans (hkt.below HLO.out.dx.1))
    have HRM := Lib.hid (HRO.out wM hrdM)
    have HT3 := Lib.hid hrdM.n3
    have HTM := Lib.hid hrdM.m3
    clear hkt hrdM HVG HRO HLO
    rcases hsay with ⟨h0, hvn, rfl, -⟩ | ⟨h0, rfl, -⟩ | ⟨h0, v, rb, sb, vb, hv, rfl, hx⟩
    ·have hre : ropE D9 = 4 := by unfold ropE; rw [if_pos h0, hvn]; rfl
     rw [hre] at HRM
     clear h0 hvn hre HNW
     skip
     go_upto_region 21 with fail
     go_wp2_with (refine wpList_load_row rfl 65 _ rfl rg rfl 65 (rdA TN D9) (0, 0) _ HROWM.out Tryz.underlying65 rfl (infoRD _ (rdA_size HT3.out HTM.out)) ?_)
     refine HRM.out.mono ?_
     rintro e wN ⟨T9, v9, ps9, cs9, pb9, cb9, pa9, ca9, rfl, hrv, hbN, hvv, -⟩
     have hal := Below.allocs wN (.cells zRV 76)
     have hnew := heap_alloc_last wN (.cells zRV 76)
     have hbx := below_setRow hal (Nat.le_refl _) (rvA T9 (opnD D9 0) (opnS D9 1 2) ps9 cs9 v9 pb9 cb9 pa9 ca9)
     have NEW := Lib.hid hnew
     have HVV := Lib.hid hvv
     have HRO9 := Lib.hid (setRow_heap _ _ _ (rvA T9 (opnD D9 0) (opnS D9 1 2) ps9 cs9 v9 pb9 cb9 pa9 ca9) _ _ hnew)
     have HRV9 := Lib.hid (hrv.below hbx)
     have hbo := hbN.trans (hbx.mono hbN.size)
     have HBO := Lib.hid hbo
     have HLO9 := Lib.hid (HLM.out.trans (hbo.mono HLM.out.size))
     have HSZ9 := Lib.hid (rvA_size hrv.rd.n3 hrv.rd.m3 (opnS D9 1 2) ps9 cs9 v9 pb9 cb9 pa9 ca9)
     have HON9 := Lib.hid (rvA_one hrv.rd.n3 hrv.rd.m3 (opnS D9 1 2) ps9 cs9 v9 pb9 cb9 pa9 ca9)
     clear hal hnew hbx hrv hbN hvv hbo HRM HROWM HLM HT3 HTM
     go_upto_region 22 with (refine wpList_store_row rfl 76 _ _ rfl wN.heap.size (rvA T9 (opnD D9 0) (opnS D9 1 2) ps9 cs9 v9 pb9 cb9 pa9 ca9) rfl rfl 76 zRV NEW.out (infoRV _ HSZ9.out) (by rw [HSZ9.out]; rfl) HON9.out ?_)
     try simp only [Act.put, zA, zB, zC]
     clear NEW HON9
     generalize (wN.alloc (.cells zRV 76)).setRow wN.heap.size (rvA T9 (opnD D9 0) (opnS D9 1 2) ps9 cs9 v9 pb9 cb9 pa9 ca9) = wO at *
     generalize wN.heap.size = gO at *
     have HBX : Hid (Below w.heap.size w wO) := HLO9.out
     have HEX := Lib.hid (HE1.out wO HLO9.out)
     skip
     have HA := Lib.hid (alive22_any wO HEX.out)
     go_wp2_with fail
     refine HA.out.mono ?_
     rintro e w9 ⟨rfl, hb9⟩
     have HB9 := Lib.hid (HBX.out.trans (hb9.mono HBX.out.size))
     go_wp2_with fail
     go_ret
     exact ⟨rfl, HB9.out⟩
    ·have hre : ropE D9 = opnE D9 0 := by unfold ropE; rw [if_neg h0]
     rw [hre] at HRM
     generalize opnE D9 0 = EV at *
     have hq1 : ((EV : Int) == EV) = true := beq_self_eq_true _
     have hq2 : ((EV : Int) != EV) = false := by rw [bne_eq_false_iff_eq]
     have hq3 : ((EV : Int) == 0) = false := beq_eq_false_iff_ne.2 h0
     have hq4 : ((EV : Int) != 0) = true := bne_iff_ne.2 h0
     clear h0 hre HNW
     skip
     go_upto_region 21 with fail
     go_wp2_with (refine wpList_load_row rfl 65 _ rfl rg rfl 65 (rdA TN D9) (0, 0) _ HROWM.out Tryz.underlying65 rfl (infoRD _ (rdA_size HT3.out HTM.out)) ?_)
     refine HRM.out.mono ?_
     rintro e wN ⟨T9, v9, ps9, cs9, pb9, cb9, pa9, ca9, rfl, hrv, hbN, hvv, -⟩
     have hal := Below.allocs wN (.cells zRV 76)
     have hnew := heap_alloc_last wN (.cells zRV 76)
     have hbx := below_setRow hal (Nat.le_refl _) (rvA T9 (opnD D9 0) (opnS D9 1 2) ps9 cs9 v9 pb9 cb9 pa9 ca9)
     have NEW := Lib.hid hnew
     have HVV := Lib.hid hvv
     have HRO9 := Lib.hid (setRow_heap _ _ _ (rvA T9 (opnD D9 0) (opnS D9 1 2) ps9 cs9 v9 pb9 cb9 pa9 ca9) _ _ hnew)
     have HRV9 := Lib.hid (hrv.below hbx)
     have hbo := hbN.trans (hbx.mono hbN.size)
     have HBO := Lib.hid hbo
     have HLO9 := Lib.hid (HLM.out.trans (hbo.mono HLM.out.size))
     have HSZ9 := Lib.hid (rvA_size hrv.rd.n3 hrv.rd.m3 (opnS D9 1 2) ps9 cs9 v9 pb9 cb9 pa9 ca9)
     have HON9 := Lib.hid (rvA_one hrv.rd.n3 hrv.rd.m3 (opnS D9 1 2) ps9 cs9 v9 pb9 cb9 pa9 ca9)
     clear hal hnew hbx hrv hbN hvv hbo HRM HROWM HLM HT3 HTM
     go_upto_region 22 with (refine wpList_store_row rfl 76 _ _ rfl wN.heap.size (rvA T9 (opnD D9 0) (opnS D9 1 2) ps9 cs9 v9 pb9 cb9 pa9 ca9) rfl rfl 76 zRV NEW.out (infoRV _ HSZ9.out) (by rw [HSZ9.out]; rfl) HON9.out ?_)
     try simp only [Act.put, zA, zB, zC]
     clear NEW HON9
     generalize (wN.alloc (.cells zRV 76)).setRow wN.heap.size (rvA T9 (opnD D9 0) (opnS D9 1 2) ps9 cs9 v9 pb9 cb9 pa9 ca9) = wO at *
     generalize wN.heap.size = gO at *
     have HBX : Hid (Below w.heap.size w wO) := HLO9.out
     have HEX := Lib.hid (HE1.out wO HLO9.out)
     skip
     have HA := Lib.hid (alive22_any wO HEX.out)
     go_wp2_with fail
     refine HA.out.mono ?_
     rintro e w9 ⟨rfl, hb9⟩
     have HB9 := Lib.hid (HBX.out.trans (hb9.mono HBX.out.size))
     go_wp2_with fail
     go_ret
     exact ⟨rfl, HB9.out⟩
    ·have hre : ropE D9 = 0 := by unfold ropE; rw [if_pos h0, hv]; rfl
     rw [hre] at HRM
     have HH0 := Lib.hid h0
     have HHV := Lib.hid hv
     have HXM := Lib.hid hx
     have hbd := vopF_bd hv (HNW.out wM (by obtain ⟨_, _, _, _, hx'⟩ := hx; exact hx'.sx.dx))
     have HBD := Lib.hid hbd
     clear h0 hv hx hre hbd HNW
     skip
     go_upto_region 21 with fail
     go_wp2_with (refine wpList_load_row rfl 65 _ rfl rg rfl 65 (rdA TN D9) (0, 0) _ HROWM.out Tryz.underlying65 rfl (infoRD _ (rdA_size HT3.out HTM.out)) ?_)
     refine HRM.out.mono ?_
     rintro e wN ⟨T9, v9, ps9, cs9, pb9, cb9, pa9, ca9, rfl, hrv, hbN, hvv, -⟩
     have hal := Below.allocs wN (.cells zRV 76)
     have hnew := heap_alloc_last wN (.cells zRV 76)
     have hbx := below_setRow hal (Nat.le_refl _) (rvA T9 (opnD D9 0) (opnS D9 1 2) ps9 cs9 v9 pb9 cb9 pa9 ca9)
     have NEW := Lib.hid hnew
     have HVV := Lib.hid hvv
     have HRO9 := Lib.hid (setRow_heap _ _ _ (rvA T9 (opnD D9 0) (opnS D9 1 2) ps9 cs9 v9 pb9 cb9 pa9 ca9) _ _ hnew)
     have HRV9 := Lib.hid (hrv.below hbx)
     have hbo := hbN.trans (hbx.mono hbN.size)
     have HBO := Lib.hid hbo
     have HLO9 := Lib.hid (HLM.out.trans (hbo.mono HLM.out.size))
     have HSZ9 := Lib.hid (rvA_size hrv.rd.n3 hrv.rd.m3 (opnS D9 1 2) ps9 cs9 v9 pb9 cb9 pa9 ca9)
     have HON9 := Lib.hid (rvA_one hrv.rd.n3 hrv.rd.m3 (opnS D9 1 2) ps9 cs9 v9 pb9 cb9 pa9 ca9)
     clear hal hnew hbx hrv hbN hvv hbo HRM HROWM HLM HT3 HTM
     go_upto_region 22 with (refine wpList_store_row rfl 76 _ _ rfl wN.heap.size (rvA T9 (opnD D9 0) (opnS D9 1 2) ps9 cs9 v9 pb9 cb9 pa9 ca9) rfl rfl 76 zRV NEW.out (infoRV _ HSZ9.out) (by rw [HSZ9.out]; rfl) HON9.out ?_)
     try simp only [Act.put, zA, zB, zC]
     clear NEW HON9
     generalize (wN.alloc (.cells zRV 76)).setRow wN.heap.size (rvA T9 (opnD D9 0) (opnS D9 1 2) ps9 cs9 v9 pb9 cb9 pa9 ca9) = wO at *
     generalize wN.heap.size = gO at *
     obtain rfl : v = v9 := (HVV.out HH0.out _ HHV.out).symm
     have HLK := Lib.hid (like22_any wO (HXM.out.below HBO.out) HRV9.out (by have := HBD.out.1; omega) (by have := HBD.out.2.1; omega) (fun x hx => by have := HBD.out.2.2 x hx; omega))
     go_wp2_with ((with_reducible refine wpAt 120 ?_); refine wpList_load_row_g (by rfl) 76 _ rfl gO rfl 76 (rvA T9 (opnD D9 0) (opnS D9 1 2) ps9 cs9 v pb9 cb9 pa9 ca9) (0, 0) _ HRO9.out Tryz.underlying76 rfl (infoRV _ HSZ9.out) ?_)
     refine HLK.out.mono ?_
     rintro e wP ⟨rfl, hbP⟩
     have HBP := Lib.hid (HLO9.out.trans (hbP.mono HLO9.out.size))
     have HEX := Lib.hid (HE1.out wP HBP.out)
     skip
     have HA := Lib.hid (alive22_any wP HEX.out)
     go_wp2_with fail
     refine HA.out.mono ?_
     rintro e w9 ⟨rfl, hb9⟩
     have HB9 := Lib.hid (HBP.out.trans (hb9.mono HBP.out.size))
     go_wp2_with fail
     go_ret
     exact ⟨rfl, HB9.out⟩
   ·have d6 : decide ((0 : Int) < (sn.length : Int)) = false := decide_eq_false (by omega)
    have d6' : decide (0 < sn.length) = false := decide_eq_false h0
    clear h0
    skip
    have HVG := Lib.hid (vopeng_any wr (HE1.out wr HLO.out.low) HG.out HLO.out.dx HLO.out.up.1 (by have := fewfd (i := 0) HLO.out.few; have := HNL.out; omega))
    have HRO : Hid (∀ y, RDB y T d → Calls Tryz.prog 27 #[.agg (rdA T d)] y (RVOpP d y)) := fun y hy => rvopen_any T d y hy HLO.out.up.1 HLO.out.dx.room.2.2 (by have := fewfd (i := 0) HLO.out.few; have := HNL.out; omega)
    unfold RVOpP at HRO
    have HNW : Hid (∀ y, DX w.heap.size db (opnD d 0) y → (fD (opnD d 0) 0).now.length ≤ 65536) := fun y hy => by
     have h1 := hy.ok (i := 0) (by omega)
     have h2 := @need_le (opnD d 0) 0 (by obtain ⟨_, vs, hd⟩ := hy; rw [hd.m3]; omega)
     have h3 := hy.room
     have h4 := h1.le
     omega
    go_upto_region 20 with fail
    go_wp2_with fail
    refine HVG.out.mono ?_
    rintro e wM ⟨hkt, hsay⟩
    have HROWM := Lib.hid (hkt.row HLO.out.row (by decide) (by decide))
    have hrdM := HLO.out.rd.step (kr_of_kv (KV.of_kt hkt))
    have HLM := Lib.hid (HLO.out.low.trans (hkt.below HLO.out.dx.1))
    have HRM := Lib.hid (HRO.out wM hrdM)
    have HT3 := Lib.hid hrdM.n3
    have HTM := Lib.hid hrdM.m3
    clear hkt hrdM HVG HRO HLO
    rcases hsay with ⟨h0, hvn, rfl, -⟩ | ⟨h0, rfl, -⟩ | ⟨h0, v, rb, sb, vb, hv, rfl, hx⟩
    ·have hre : ropE d = 4 := by unfold ropE; rw [if_pos h0, hvn]; rfl
     rw [hre] at HRM
     clear h0 hvn hre HNW
     skip
     go_upto_region 21 with fail
     go_wp2_with (refine wpList_load_row rfl 65 _ rfl rg rfl 65 (rdA T d) (0, 0) _ HROWM.out Tryz.underlying65 rfl (infoRD _ (rdA_size HT3.out HTM.out)) ?_)
     refine HRM.out.mono ?_
     rintro e wN ⟨T9, v9, ps9, cs9, pb9, cb9, pa9, ca9, rfl, hrv, hbN, hvv, -⟩
     have hal := Below.allocs wN (.cells zRV 76)
     have hnew := heap_alloc_last wN (.cells zRV 76)
     have hbx := below_setRow hal (Nat.le_refl _) (rvA T9 (opnD d 0) (opnS d 1 2) ps9 cs9 v9 pb9 cb9 pa9 ca9)
     have NEW := Lib.hid hnew
     have HVV := Lib.hid hvv
     have HRO9 := Lib.hid (setRow_heap _ _ _ (rvA T9 (opnD d 0) (opnS d 1 2) ps9 cs9 v9 pb9 cb9 pa9 ca9) _ _ hnew)
     have HRV9 := Lib.hid (hrv.below hbx)
     have hbo := hbN.trans (hbx.mono hbN.size)
     have HBO := Lib.hid hbo
     have HLO9 := Lib.hid (HLM.out.trans (hbo.mono HLM.out.size))
     have HSZ9 := Lib.hid (rvA_size hrv.rd.n3 hrv.rd.m3 (opnS d 1 2) ps9 cs9 v9 pb9 cb9 pa9 ca9)
     have HON9 := Lib.hid (rvA_one hrv.rd.n3 hrv.rd.m3 (opnS d 1 2) ps9 cs9 v9 pb9 cb9 pa9 ca9)
     clear hal hnew hbx hrv hbN hvv hbo HRM HROWM HLM HT3 HTM
     go_upto_region 22 with (refine wpList_store_row rfl 76 _ _ rfl wN.heap.size (rvA T9 (opnD d 0) (opnS d 1 2) ps9 cs9 v9 pb9 cb9 pa9 ca9) rfl rfl 76 zRV NEW.out (infoRV _ HSZ9.out) (by rw [HSZ9.out]; rfl) HON9.out ?_)
     try simp only [Act.put, zA, zB, zC]
     clear NEW HON9
     generalize (wN.alloc (.cells zRV 76)).setRow wN.heap.size (rvA T9 (opnD d 0) (opnS d 1 2) ps9 cs9 v9 pb9 cb9 pa9 ca9) = wO at *
     generalize wN.heap.size = gO at *
     have HBX : Hid (Below w.heap.size w wO) := HLO9.out
     have HEX := Lib.hid (HE1.out wO HLO9.out)
     skip
     have HA := Lib.hid (alive22_any wO HEX.out)
     go_wp2_with fail
     refine HA.out.mono ?_
     rintro e w9 ⟨rfl, hb9⟩
     have HB9 := Lib.hid (HBX.out.trans (hb9.mono HBX.out.size))
     go_wp2_with fail
     go_ret
     exact ⟨rfl, HB9.out⟩
    ·have hre : ropE d = opnE d 0 := by unfold ropE; rw [if_neg h0]
     rw [hre] at HRM
     generalize opnE d 0 = EV at *
     have hq1 : ((EV : Int) == EV) = true := beq_self_eq_true _
     have hq2 : ((EV : Int) != EV) = false := by rw [bne_eq_false_iff_eq]
     have hq3 : ((EV : Int) == 0) = false := beq_eq_false_iff_ne.2 h0
     have hq4 : ((EV : Int) != 0) = true := bne_iff_ne.2 h0
     clear h0 hre HNW
     skip
     go_upto_region 21 with fail
     go_wp2_with (refine wpList_load_row rfl 65 _ rfl rg rfl 65 (rdA T d) (0, 0) _ HROWM.out Tryz.underlying65 rfl (infoRD _ (rdA_size HT3.out HTM.out)) ?_)
     refine HRM.out.mono ?_
     rintro e wN ⟨T9, v9, ps9, cs9, pb9, cb9, pa9, ca9, rfl, hrv, hbN, hvv, -⟩
     have hal := Below.allocs wN (.cells zRV 76)
     have hnew := heap_alloc_last wN (.cells zRV 76)
     have hbx := below_setRow hal (Nat.le_refl _) (rvA T9 (opnD d 0) (opnS d 1 2) ps9 cs9 v9 pb9 cb9 pa9 ca9)
     have NEW := Lib.hid hnew
     have HVV := Lib.hid hvv
     have HRO9 := Lib.hid (setRow_heap _ _ _ (rvA T9 (opnD d 0) (opnS d 1 2) ps9 cs9 v9 pb9 cb9 pa9 ca9) _ _ hnew)
     have HRV9 := Lib.hid (hrv.below hbx)
     have hbo := hbN.trans (hbx.mono hbN.size)
     have HBO := Lib.hid hbo
     have HLO9 := Lib.hid (HLM.out.trans (hbo.mono HLM.out.size))
     have HSZ9 := Lib.hid (rvA_size hrv.rd.n3 hrv.rd.m3 (opnS d 1 2) ps9 cs9 v9 pb9 cb9 pa9 ca9)
     have HON9 := Lib.hid (rvA_one hrv.rd.n3 hrv.rd.m3 (opnS d 1 2) ps9 cs9 v9 pb9 cb9 pa9 ca9)
     clear hal hnew hbx hrv hbN hvv hbo HRM HROWM HLM HT3 HTM
     go_upto_region 22 with (refine wpList_store_row rfl 76 _ _ rfl wN.heap.size (rvA T9 (opnD d 0) (opnS d 1 2) ps9 cs9 v9 pb9 cb9 pa9 ca9) rfl rfl 76 zRV NEW.out (infoRV _ HSZ9.out) (by rw [HSZ9.out]; rfl) HON9.out ?_)
     try simp only [Act.put, zA, zB, zC]
     clear NEW HON9
     generalize (wN.alloc (.cells zRV 76)).setRow wN.heap.size (rvA T9 (opnD d 0) (opnS d 1 2) ps9 cs9 v9 pb9 cb9 pa9 ca9) = wO at *
     generalize wN.heap.size = gO at *
     have HBX : Hid (Below w.heap.size w wO) := HLO9.out
     have HEX := Lib.hid (HE1.out wO HLO9.out)
     skip
     have HA := Lib.hid (alive22_any wO HEX.out)
     go_wp2_with fail
     refine HA.out.mono ?_
     rintro e w9 ⟨rfl, hb9⟩
     have HB9 := Lib.hid (HBX.out.trans (hb9.mono HBX.out.size))
     go_wp2_with fail
     go_ret
     exact ⟨rfl, HB9.out⟩
    ·have hre : ropE d = 0 := by unfold ropE; rw [if_pos h0, hv]; rfl
     rw [hre] at HRM
     have HH0 := Lib.hid h0
     have HHV := Lib.hid hv
     have HXM := Lib.hid hx
     have hbd := vopF_bd hv (HNW.out wM (by obtain ⟨_, _, _, _, hx'⟩ := hx; exact hx'.sx.dx))
     have HBD := Lib.hid hbd
     clear h0 hv hx hre hbd HNW
     skip
     go_upto_region 21 with fail
     go_wp2_with (refine wpList_load_row rfl 65 _ rfl rg rfl 65 (rdA T d) (0, 0) _ HROWM.out Tryz.underlying65 rfl (infoRD _ (rdA_size HT3.out HTM.out)) ?_)
     refine HRM.out.mono ?_
     rintro e wN ⟨T9, v9, ps9, cs9, pb9, cb9, pa9, ca9, rfl, hrv, hbN, hvv, -⟩
     have hal := Below.allocs wN (.cells zRV 76)
     have hnew := heap_alloc_last wN (.cells zRV 76)
     have hbx := below_setRow hal (Nat.le_refl _) (rvA T9 (opnD d 0) (opnS d 1 2) ps9 cs9 v9 pb9 cb9 pa9 ca9)
     have NEW := Lib.hid hnew
     have HVV := Lib.hid hvv
     have HRO9 := Lib.hid (setRow_heap _ _ _ (rvA T9 (opnD d 0) (opnS d 1 2) ps9 cs9 v9 pb9 cb9 pa9 ca9) _ _ hnew)
     have HRV9 := Lib.hid (hrv.below hbx)
     have hbo := hbN.trans (hbx.mono hbN.size)
     have HBO := Lib.hid hbo
     have HLO9 := Lib.hid (HLM.out.trans (hbo.mono HLM.out.size))
     have HSZ9 := Lib.hid (rvA_size hrv.rd.n3 hrv.rd.m3 (opnS d 1 2) ps9 cs9 v9 pb9 cb9 pa9 ca9)
     have HON9 := Lib.hid (rvA_one hrv.rd.n3 hrv.rd.m3 (opnS d 1 2) ps9 cs9 v9 pb9 cb9 pa9 ca9)
     clear hal hnew hbx hrv hbN hvv hbo HRM HROWM HLM HT3 HTM
     go_upto_region 22 with (refine wpList_store_row rfl 76 _ _ rfl wN.heap.size (rvA T9 (opnD d 0) (opnS d 1 2) ps9 cs9 v9 pb9 cb9 pa9 ca9) rfl rfl 76 zRV NEW.out (infoRV _ HSZ9.out) (by rw [HSZ9.out]; rfl) HON9.out ?_)
     try simp only [Act.put, zA, zB, zC]
     clear NEW HON9
     generalize (wN.alloc (.cells zRV 76)).setRow wN.heap.size (rvA T9 (opnD d 0) (opnS d 1 2) ps9 cs9 v9 pb9 cb9 pa9 ca9) = wO at *
     generalize wN.heap.size = gO at *
     obtain rfl : v = v9 := (HVV.out HH0.out _ HHV.out).symm
     have HLK := Lib.hid (like22_any wO (HXM.out.below HBO.out) HRV9.out (by have := HBD.out.1; omega) (by have := HBD.out.2.1; omega) (fun x hx => by have := HBD.out.2.2 x hx; omega))
     go_wp2_with ((with_reducible refine wpAt 120 ?_); refine wpList_load_row_g (by rfl) 76 _ rfl gO rfl 76 (rvA T9 (opnD d 0) (opnS d 1 2) ps9 cs9 v pb9 cb9 pa9 ca9) (0, 0) _ HRO9.out Tryz.underlying76 rfl (infoRV _ HSZ9.out) ?_)
     refine HLK.out.mono ?_
     rintro e wP ⟨rfl, hbP⟩
     have HBP := Lib.hid (HLO9.out.trans (hbP.mono HLO9.out.size))
     have HEX := Lib.hid (HE1.out wP HBP.out)
     skip
     have HA := Lib.hid (alive22_any wP HEX.out)
     go_wp2_with fail
     refine HA.out.mono ?_
     rintro e w9 ⟨rfl, hb9⟩
     have HB9 := Lib.hid (HBP.out.trans (hb9.mono HBP.out.size))
     go_wp2_with fail
     go_ret
     exact ⟨rfl, HB9.out⟩
end Go.Proofs.YtnejjfglkindjaaGreatDoor.Vlt
namespace Go.Proofs.YtnejjfglkindjaaGreatDoor.Vlt
open Go.ChangeShapes Go.WideShapes Go.ChangeAt Go.RowKit Go.Mir
theorem open_us {P : Program} {W : World} {H : Type} {enc : TypeId × Value → H} {t e base : Nat} {v : Value} {d : DataW H} {ps : List MemPlace} (ht : P.underlying t = some (.slice e)) (he : P.underlying e = some (.int .u64)) (hc : P.cellsOf e = 1)
  (hval : Value.okWide P W .any base t v) (h : DataW.Trod enc P W 0 (fun _ => true) true t v d ps) :
  ∃ p c us, v = .slice p us.length c ∧ Us W p us.length c us := by
 obtain ⟨a, n, c, rfl⟩ := okWide_slice ht hval
 obtain ⟨fuel, hf⟩ := h
 rcases Deep.open_slice1 ht hc hf with ⟨hcs, _⟩ | ⟨a', len, cap, m, k, V, D, Pl, hcs, hb, hl, hm, hmm, hx, hv⟩
 ·simp [Value.cells] at hcs
  obtain ⟨rfl, rfl, rfl⟩ := hcs
  exact ⟨_, _, [], rfl, Sl.nil _ _, rfl, fun x h => by simp at h⟩
 ·simp [Value.cells] at hcs
  obtain ⟨rfl, rfl, rfl⟩ := hcs
  simp only [if_true] at hmm
  subst hmm
  have key : ∀ i, i < m → ∃ x : Nat, V i = .int .u64 (x : Int) ∧ x < 18446744073709551616 := by
   intro i hi
   obtain ⟨z, hz, _, hw⟩ := DataW.trod_int he (hv i hi).2
   obtain ⟨x, rfl, hx⟩ := u64_nat hw
   exact ⟨x, by simpa using hz, hx⟩
  have hlen : ((List.range n).map (fun i => (intOf (V i)).toNat)).length = n := by simp
  have hU : Us W (some a') n m ((List.range n).map (fun i => (intOf (V i)).toNat)) := by
   refine ⟨⟨?_, hl, by simpa [maxLen] using hm, fun h => (by cases h), fun a'' ha j u hu => ?_⟩, hlen, fun x hx' => ?_⟩
   ·simp
   ·obtain rfl := Option.some.inj ha
    have hj : j < n := by
     have := (List.getElem?_eq_some_iff.1 hu).1
     simpa using this
    rw [(hv j (by omega)).1, ← hu]
    obtain ⟨x, hz, _⟩ := key j (by omega)
    rw [hz]
    simp [hj, hz, intOf]
   ·simp only [List.mem_map, List.mem_range] at hx'
    obtain ⟨i, hi, rfl⟩ := hx'
    obtain ⟨x, hz, h1⟩ := key i (by omega)
    rw [hz]
    simpa [intOf] using h1
  exact ⟨some a', m, _, by rw [hlen], by rw [hlen]; exact hU⟩
end Go.Proofs.YtnejjfglkindjaaGreatDoor.Vlt
