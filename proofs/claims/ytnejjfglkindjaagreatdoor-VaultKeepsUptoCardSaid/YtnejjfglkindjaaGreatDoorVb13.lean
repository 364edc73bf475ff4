/- PARTS, JOINED: LAYER 22: VaultKeeps: whatever crashes, and whenever. Conditions: the laid cell of errors.errorType; a bulk that an int holds. -/
import Derived.Test.YtnejjfglkindjaaGreatDoorVb1
import Derived.Test.YtnejjfglkindjaaGreatDoorVb2
import Derived.Test.YtnejjfglkindjaaGreatDoorVb3
import Derived.Test.YtnejjfglkindjaaGreatDoorVb4
import Derived.Test.YtnejjfglkindjaaGreatDoorVb5
import Derived.Test.YtnejjfglkindjaaGreatDoorVb6
import Derived.Test.YtnejjfglkindjaaGreatDoorVb7
import Derived.Test.YtnejjfglkindjaaGreatDoorVb8
import Derived.Test.YtnejjfglkindjaaGreatDoorVb9
import Derived.Test.YtnejjfglkindjaaGreatDoorVb10
import Derived.Test.YtnejjfglkindjaaGreatDoorVb11
import Derived.Test.YtnejjfglkindjaaGreatDoorVb12
namespace Go.Proofs.YtnejjfglkindjaaGreatDoor.Vlt
open Go.RowKit Go.Mir Go.Mir.Parts Dk Rol Wr Slt Cut
open Frm (frame scan)

set_option maxRecDepth 100000 in
set_option maxHeartbeats 12800000 in
theorem law_keeps (p0 : Option Addr) (c0 : Nat) (os : List VOp) (rows : List (List Value)) (f0 f1 : Nat) (hf0 : f0 < 256) (hf1 : f1 < 256) (u0 u1 u2 u3 u4 u5 : Int) (hun : ∀ x ∈ [u0, u1, u2, u3, u4, u5], -9223372036854775808 ≤ x ∧ x ≤ 9223372036854775807) (w : World) (hE : Rdr.EType w) (hP : VOps w p0 os.length c0 os rows) (hs : os.length + bsum os ≤ 4611686018427387904) :
    Calls Tryz.prog 4 #[.slice p0 os.length c0, .agg #[.int .u8 (f0 : Int), .int .u8 (f1 : Int)], .agg #[.int .i64 u0, .int .i64 u1, .int .i64 u2, .int .i64 u3, .int .i64 u4, .int .i64 u5]] w fun e w' => e = .returned (.bool true) ∧ Below w.heap.size w w' := by
  have hal1 := Below.allocs w (.cells #[.int .u8 (f0 : Int), .int .u8 (f1 : Int)] 43)
  have hrow1 := heap_alloc_last w (.cells #[.int .u8 (f0 : Int), .int .u8 (f1 : Int)] 43)
  have hsz : (w.alloc (.cells #[.int .u8 (f0 : Int), .int .u8 (f1 : Int)] 43)).heap.size = w.heap.size + 1 := by simp
  obtain ⟨W0, hW0⟩ : ∃ W0, w.alloc (.cells #[.int .u8 (f0 : Int), .int .u8 (f1 : Int)] 43) = W0 := ⟨_, rfl⟩
  rw [hW0] at hal1 hrow1 hsz
  have hal2 := Below.allocs W0 (.cells #[.int .i64 u0, .int .i64 u1, .int .i64 u2, .int .i64 u3, .int .i64 u4, .int .i64 u5] 44)
  have hrow2 := heap_alloc_last W0 (.cells #[.int .i64 u0, .int .i64 u1, .int .i64 u2, .int .i64 u3, .int .i64 u4, .int .i64 u5] 44)
  have hns := ns_lit W0 44 [u0, u1, u2, u3, u4, u5] (show 6 ≤ 65536 by decide) hun
  have hsz2 : (W0.alloc (.cells #[.int .i64 u0, .int .i64 u1, .int .i64 u2, .int .i64 u3, .int .i64 u4, .int .i64 u5] 44)).heap.size = w.heap.size + 2 := by simp; omega
  rw [hsz] at hrow2
  have hal := hal1.trans (hal2.mono hal1.size)
  have HBX := Lib.hid hal
  have HE := Lib.hid (hE.below hal hE.lt)
  have HG : Hid (0 < w.heap.size + 2) := by show _ < _; have := hE.lt; omega
  have HP := Lib.hid (hP.below hal)
  have HSM := Lib.hid (small22_any os p0 c0 rows _ (hP.below hal) hs)
  have HR1 := Lib.hid (Below.keepOld hal2 hrow1)
  have HR2 := Lib.hid hrow2
  have HSZ1 := Lib.hid hsz2
  clear hE hP hal hal1 hal2 hrow1 hrow2 hns hs
  go_enter Tryz.func4, Tryz.ntmps4
  go_upto_region 1 with fail
  try rw [hW0]
  generalize W0.alloc (.cells #[.int .i64 u0, .int .i64 u1, .int .i64 u2, .int .i64 u3, .int .i64 u4, .int .i64 u5] 44) = w1 at *
  try rw [hsz]
  have HB0 : Hid (Below w1.heap.size w1 w1) := Below.refl _ _
  by_cases hfew : os.length + bsum os ≤ 1000
  rotate_left
  · have HD : Hid (decide (os.length + bsum os ≤ 1000) = false) := decide_eq_false hfew
    clear hfew
    go_wp2_with fail
    refine HSM.out.mono ?_
    rintro e w2 ⟨rfl, hb2⟩
    have HB2 := Lib.hid hb2
    rw [HD.out]
    clear hb2
    skip
    go_wp2_with fail
    refine (alive22_any _ (HE.out.below (HB2.out) HE.out.lt)).mono ?_
    rintro e w99 ⟨rfl, hb99⟩
    have HB99 : Hid (Below w.heap.size w w99) := HBX.out.trans ((Below.trans (HB2.out) (hb99.mono (Below.size (HB2.out)))).mono HBX.out.size)
    clear hb99
    go_wp2_with fail
    go_ret
    exact ⟨rfl, HB99.out⟩
  have HD : Hid (decide (os.length + bsum os ≤ 1000) = true) := decide_eq_true hfew
  have HTOT := Lib.hid hfew
  clear hfew
  go_wp2_with fail
  refine HSM.out.mono ?_
  rintro e w2 ⟨rfl, hb2⟩
  rw [HD.out]
  have HBZ := Lib.hid (HBX.out.trans (hb2.mono HBX.out.size))
  have HE2 := Lib.hid (HE.out.below hb2 HE.out.lt)
  have HP2 := Lib.hid (HP.out.below hb2)
  have HQ1 := Lib.hid (Below.keepOld hb2 HR1.out)
  have HQ2 := Lib.hid (Below.keepOld hb2 HR2.out)
  have HG2 : Hid (0 < w2.heap.size ∧ w.heap.size + 2 ≤ w2.heap.size) := by show _ ∧ _; have := HG.out; have := HSZ1.out; have := hb2.size; omega
  clear hb2 HSM HD HBX HE HP HR1 HR2 HG HSZ1 HB0 hW0 hsz hsz2
  clear w1
  have HN : Hid (Calls Tryz.prog 16 #[.int .i64 65536] w2 fun e w' => ∃ db, e = .returned (.tuple #[.pointer (some ⟨db, 0, none⟩), .int .i64 0]) ∧ DX w2.heap.size db (DD.new 65536) w' ∧ Below w2.heap.size w2 w') := snew 65536 w2 (by omega)
  go_wp2_with fail
  refine HN.out.mono ?_
  rintro e w3 ⟨db, rfl, hd3, hb3⟩
  have HB3 := Lib.hid hb3
  obtain ⟨hvd, hsc⟩ := vd_new 65536
  obtain ⟨ho1, ho2, ho3⟩ := left_open hvd rfl (Nat.zero_le _)
  have HO := Lib.hid (vopen_any w3 (HE2.out.below HB3.out HE2.out.lt) HG2.out.1 hd3 rfl (by have := few_new 65536 0; omega) (fun _ h => by rw [ho1] at h; cases h))
  clear hd3 hb3 HN
  go_wp2_with fail
  refine HO.out.mono ?_
  rintro e w4 ⟨hk4, hs4⟩
  rcases ho3 with ⟨hz, hlv, hfz⟩ | ⟨_, hz, _⟩
  rotate_left
  · exact absurd rfl hz
  rcases hs4 with ⟨hc, _⟩ | ⟨_, v, rb, sb, vb, hv, rfl, hs4⟩
  · exact absurd hz hc
  rw [ho1] at hv
  obtain rfl := Option.some.inj hv
  rw [ho2] at hs4
  have HX4 := Lib.hid hs4
  have HL4 := Lib.hid hlv
  have HRM4 : Hid ((opnD (DD.new 65536) 0).room = 65536) := opnD_room _ _
  have HB4 := Lib.hid (HB3.out.trans (hk4.below HB3.out.size))
  clear hs4 hlv hk4 hz hfz ho1 ho2 hvd hsc HO HB3
  generalize opnD (DD.new 65536) 0 = D0 at *
  obtain ⟨S0, hS0⟩ : ∃ S0 : SS, (⟨-1, 0, []⟩ : SS) = S0 := ⟨_, rfl⟩
  obtain ⟨V0, hV0⟩ : ∃ V0, VS.zero = V0 := ⟨_, rfl⟩
  have HZV : Hid (V0.body.length = 0 ∧ V0.after = []) := by show _ ∧ _; rw [← hV0]; exact ⟨rfl, rfl⟩
  rw [hS0, hV0] at HX4 HL4
  clear hS0 hV0
  have hfc := cell_below (show w2.cell? ⟨w.heap.size, 0, none⟩ = some (.int .u8 (f0 : Int)) by rw [cell_of_row _ _ _ _ _ _ HQ1.out]; rfl) HB4.out
  have HAR := Lib.hid (sarm w4 HX4.out.dx ((f0 : Int) % 60) (by omega))
  go_wp2_with fail
  refine HAR.out.mono ?_
  rintro e w5 ⟨rfl, hd5, hk5⟩
  have HX5 := Lib.hid (HX4.out.kt hk5 hd5)
  have HL5 := Lib.hid (live_arm HL4.out ((f0 : Int) % 60).toNat)
  have HRM5 : Hid ((⟨D0.fs, D0.room, ((f0 : Int) % 60).toNat, D0.down⟩ : DD).room = 65536) := HRM4.out
  have HB5 := Lib.hid (HB4.out.trans (hk5.below HB4.out.size))
  clear hd5 hk5 hfc HAR HX4 HL4 HRM4 HB4
  generalize (⟨D0.fs, D0.room, ((f0 : Int) % 60).toNat, D0.down⟩ : DD) = D1 at *
  have HSE := Lib.hid (seen_any w5 HX5.out (by have := HZV.out.1; omega) (by rw [HZV.out.2]; exact Nat.zero_le _) (fun x hx => by rw [HZV.out.2] at hx; cases hx))
  have hz := zeroSe
  go_wp2_with fail
  refine HSE.out.mono ?_
  rintro e w6 ⟨x6, rfl, ⟨p6, c6, rfl, ho6⟩, hb6⟩
  have HO6 := Lib.hid (own_down ho6 HB5.out.size)
  have HX6 := Lib.hid (HX5.out.below hb6)
  have HB6 := Lib.hid (HB5.out.trans (hb6.mono HB5.out.size))
  clear ho6 hb6 HSE HX5 HB5
  go_upto_region 9 with (refine wpList_store_row rfl 51 _ _ rfl w6.heap.size (seA V0 p6 V0.after.length c6) rfl rfl 51 zSe (heap_alloc_last _ _) (infoSe _ rfl) rfl (seA_one _ _ _ _) ?_)
  try simp only [Act.put]
  have hal := Below.allocs w6 (.cells zSe 51)
  have hnew := heap_alloc_last w6 (.cells zSe 51)
  have hb7 : Below w6.heap.size w6 ((w6.alloc (.cells zSe 51)).setRow w6.heap.size (seA V0 p6 V0.after.length c6)) := below_setRow hal (Nat.le_refl _) _
  have HN7 := Lib.hid (setRow_heap _ _ _ (seA V0 p6 V0.after.length c6) _ _ hnew)
  have HX7 := Lib.hid (HX6.out.below hb7)
  have HO7 := Lib.hid (own_touch HO6.out (Turns.of_below (S := fun _ => False) hb7) (fun _ _ hh => hh))
  have HB7 := Lib.hid (HB6.out.trans (hb7.mono HB6.out.size))
  have HG7 : Hid (w2.heap.size ≤ w6.heap.size) := HB6.out.size
  clear hal hnew hb7 HX6 HO6 HB6
  generalize (w6.alloc (.cells zSe 51)).setRow w6.heap.size (seA V0 p6 V0.after.length c6) = w7 at *
  generalize w6.heap.size = nb at *
  clear w6
  go_upto_region 10 with (first
    | ((with_reducible refine wpAt 50 ?_); refine wpList_load_row rfl 51 _ rfl nb rfl 51 (seA V0 p6 V0.after.length c6) (0, 0) _ HN7.out Tryz.underlying51 rfl (infoSe _ rfl) ?_)
    | refine wpList_store_row rfl 51 _ _ rfl w7.heap.size (seA V0 p6 V0.after.length c6) rfl rfl 51 zSe (heap_alloc_last _ _) (infoSe _ rfl) rfl (seA_one _ _ _ _) ?_)
  try simp only [Act.put]
  have hal := Below.allocs w7 (.cells zSe 51)
  have hnew := heap_alloc_last w7 (.cells zSe 51)
  have hb8 : Below w7.heap.size w7 ((w7.alloc (.cells zSe 51)).setRow w7.heap.size (seA V0 p6 V0.after.length c6)) := below_setRow hal (Nat.le_refl _) _
  have hnlt : nb < w7.heap.size := (Array.getElem?_eq_some_iff.1 HN7.out).1
  have HKL : Hid (KL w2.heap.size rb sb db vb nb w7.heap.size D1 S0 V0 V0 V0 p6 c6 p6 c6 w2 ((w7.alloc (.cells zSe 51)).setRow w7.heap.size (seA V0 p6 V0.after.length c6))) :=
    ⟨HX7.out.below hb8, Below.keepOld hb8 HN7.out, setRow_heap _ _ _ _ _ _ hnew, own_touch HO7.out (Turns.of_below (S := fun _ => False) hb8) (fun _ _ hh => hh), own_touch HO7.out (Turns.of_below (S := fun _ => False) hb8) (fun _ _ hh => hh), HB7.out.trans (hb8.mono HB7.out.size), HG7.out, HB7.out.size, Nat.ne_of_lt hnlt, HRM5.out⟩
  have HLV : Hid (Leaves D1 (fun v' => v' = V0 ∨ v' = V0) 0) := HL5.out.leaves (.inl rfl)
  clear hal hnew hb8 hnlt HN7 HX7 HO7 HB7 HG7 HRM5
  generalize (w7.alloc (.cells zSe 51)).setRow w7.heap.size (seA V0 p6 V0.after.length c6) = w8 at *
  generalize w7.heap.size = xb at *
  clear w7 w5 w4 w3
  have hple := HP2.out.rs.sl.le
  have hpmx := HP2.out.rs.sl.max
  obtain ⟨Z, hzo, hZ⟩ := zVOp
  have HZZ := Lib.hid hZ
  clear hZ
  go_wp2_with fail
  go_loopw [14, 53] (fun _ j wr => ∃ (i : Nat) (D : DD) (s : SS) (v a b : VS) (pn : Option Addr) (cn : Nat) (px : Option Addr) (cx : Nat), i ≤ os.length ∧ j = .int .i64 i ∧ KL w2.heap.size rb sb db vb nb xb D s v a b pn cn px cx w2 wr ∧ Leaves D (fun v' => v' = a ∨ v' = b) (i + bsum (os.take i)) ∧ (D.down = false → Live D s v (i + bsum (os.take i)) ∧ a = v ∧ b = v)) (fun _ j _ => os.length - (intOf j).toNat)
  case atStart => exact ⟨0, D1, S0, V0, V0, V0, p6, c6, p6, c6, Nat.zero_le _, rfl, HKL.out, HLV.out, fun _ => ⟨HL5.out, rfl, rfl⟩⟩
  case round =>
    clear HKL HLV HL5
    obtain ⟨i, D, s, v, a, b, pn, cn, px, cx, hi, rfl, hkl, hlv, hup⟩ := hrel
    have HKL := Lib.hid hkl
    have HLV := Lib.hid hlv
    have HUP := Lib.hid hup
    clear hkl hlv hup
    by_cases hlt : i < os.length
    · have hd : decide ((i : Int) < (os.length : Int)) = true := decide_eq_true (by omega)
      have hd2 : decide (i < os.length) = true := decide_eq_true hlt
      obtain ⟨bb, oo, rfl⟩ := HP2.out.rs.sl.addr (by omega) (by omega)
      obtain ⟨pb, cb, hbs, hrg⟩ := HP2.out.at i hlt
      have HRG := Lib.hid (range_below hrg HKL.out.low)
      have HBS := Lib.hid hbs
      have HTS := Lib.hid (bsum_take_succ os i hlt)
      have HTL := Lib.hid (bsum_take_le os (i + 1))
      generalize os[i] = o at *
      obtain ⟨A, hA⟩ : ∃ A, A = vopA o pb cb := ⟨_, rfl⟩
      have HOS : Hid (A.size = 5) := by show _ = _; rw [hA]; rfl
      have HOO : Hid (A.all (·.oneCell') = true) := by show _ = _; rw [hA]; exact vopA_one _ _ _
      have HOL : Hid (A.toList.length = 5) := by show _ = _; rw [Array.length_toList]; exact HOS.out
      have HNW := Lib.hid (box_new wr Z 54)
      have hbr := box_row wr Z A 54
      have HBB := Lib.hid (box_below wr Z A 54)
      have HRA := Lib.hid hA
      rw [← hA] at HRG
      have HROW := Lib.hid hbr
      clear hbr hA hbs hrg
      go_upto_region 13 with (first
        | ((with_reducible refine wpAt 56 ?_); refine wpList_load_mid rfl 54 _ rfl bb (oo + i * 5) rfl A.toList _ HRG.out Tryz.underlying54 rfl (infoVOp _ HOL.out) ?_)
        | ((with_reducible refine wpStoreAt 14 ?_); refine wpList_store_row rfl 54 _ _ rfl wr.heap.size A rfl rfl 54 Z HNW.out (infoVOp _ HOS.out) (HZZ.out.trans HOS.out.symm) HOO.out ?_))
      try simp only [Act.put]
      have HKA := Lib.hid (HKL.out.below HBB.out HKL.out.low.size)
      have HIL : Hid (i + 1 ≤ os.length) := hlt
      have HNN : Hid (i + bsum (os.take i) + (1 + o.b.length) = i + 1 + bsum (os.take (i + 1))) := by show _ = _; have := HTS.out; omega
      have HN1 : Hid (i + bsum (os.take i) + (1 + o.b.length) ≤ 1000) := by show _ ≤ _; have h1 := HTOT.out; have h2 := HTS.out; have h3 := HTL.out; have h4 := HIL.out; omega
      have HOB : Hid (∀ y, Below w2.heap.size w2 y → Bs y pb o.b.length cb o.b) := fun y hy => HBS.out.below hy
      clear HRG HOS HOO HOL HNW HBB HTL HKL HBS
      generalize (wr.alloc (.cells Z 54)).setRow wr.heap.size A = wA at *
      generalize hog : wr.heap.size = og at *
      have HGL : Hid (og < wA.heap.size) := (Array.getElem?_eq_some_iff.1 HROW.out).1
      have HDW := Lib.hid (xdownS wA HKA.out.xv.dx)
      by_cases hdn : D.down = true
      · rw [hdn] at HDW
        have HNT : Hid (i + bsum (os.take i) ≤ 1000) := by show _ ≤ _; have h1 := HN1.out; omega
        clear hdn
        go_wp2_with fail
        refine HDW.out.mono ?_
        rintro e w99 ⟨rfl, rfl⟩
        clear HDW HROW HGL hog
        skip
        -- world wA; HKA : KL .. D s v a b pn cn px cx w2 wA; HLV : Leaves D (a or b) (i + bsum (os.take i)); HNT : (i + bsum (os.take i)) ≤ 1000
        have HQ0 := Lib.hid HKA.out.kq
        have hsl1 : ∀ y, (Instr.sliceAt 44 (.pointer (some ⟨w.heap.size + 1, 0, none⟩)) none (some (.int .i64 3)) none).run Tryz.prog y = .ok (.slice (some ⟨w.heap.size + 1, 0, none⟩) 3 6) y := fun y => by kernel_rfl
        have hsl2 : ∀ y, (Instr.sliceAt 44 (.pointer (some ⟨w.heap.size + 1, 0, none⟩)) (some (.int .i64 3)) none none).run Tryz.prog y = .ok (.slice (some ⟨w.heap.size + 1, 3, none⟩) 3 3) y := fun y => by kernel_rfl
        have HSL1 := Lib.hid hsl1
        have HSL2 := Lib.hid hsl2
        have hrw := Below.keepOld HKA.out.low HQ2.out
        have hn1 : Ns wA (some ⟨w.heap.size + 1, 0, none⟩) [u0, u1, u2].length 6 [u0, u1, u2] := ns_sub hrw (fun j u hj => by
          match j, hj with
          | 0, hj => exact hj
          | 1, hj => exact hj
          | 2, hj => exact hj
          | j + 3, hj => cases hj) (show (3 : Nat) ≤ 6 by decide) (by decide) (fun x hx => hun x (by
            simp only [List.mem_cons, List.not_mem_nil, or_false] at hx ⊢
            rcases hx with h | h | h <;> simp [h]))
        have hap : ∀ (y : World), Below w2.heap.size w2 y → ∀ k (a : Addr), some (⟨w.heap.size + 1, k, none⟩ : Addr) = some a → ¬ DTy w2.heap.size y a.block ∧ a.block < y.heap.size := fun y hy k a ha => by
          obtain rfl := Option.some.inj ha
          have h1 := HG2.out.2
          have h2 := hy.size
          refine ⟨fun hk => ?_, ?_⟩
          · have h3 : w2.heap.size ≤ w.heap.size + 1 := hk.1
            omega
          · show w.heap.size + 1 < _
            omega
        have HAP := Lib.hid hap
        have HC1 := Lib.hid (scrash wA HQ0.out.dx [u0, u1, u2] (some ⟨w.heap.size + 1, 0, none⟩) 6 hn1 (hap wA HKA.out.low 0))
        clear hrw hn1 hap hsl2
        go_upto_region 25 with fail
        go_wp2_with fail
        refine HC1.out.mono ?_
        rintro e wF ⟨rfl, hdF, hkF⟩
        have HQF := Lib.hid (HQ0.out.kt hkF hdF)
        obtain ⟨x, y1, y2, s1, v1, hvd, hpv⟩ := HLV.out [u0, u1, u2]
        have HPV := Lib.hid hpv
        have HVF := Lib.hid hvd
        have HRF : Hid ((crashD [u0, u1, u2] D).room = 65536) := HKA.out.room
        have HDF : Hid ((crashD [u0, u1, u2] D).down = false) := rfl
        have hf1 := cell_below (show w2.cell? ⟨w.heap.size, 1, none⟩ = some (.int .u8 (f1 : Int)) by rw [cell_of_row _ _ _ _ _ _ HQ1.out]; rfl) HQF.out.low
        clear hdF hkF hvd hpv HC1 HQ0 HLV HKA hsl1
        generalize crashD [u0, u1, u2] D = D1 at *
        have HAR := Lib.hid (sarm wF HQF.out.dx ((f1 : Int) % 4) (by omega))
        go_wp2_with fail
        refine HAR.out.mono ?_
        rintro e wG ⟨rfl, hdG, hkG⟩
        have HQG := Lib.hid (HQF.out.kt hkG hdG)
        have HVG : Hid (Vd ⟨D1.fs, D1.room, ((f1 : Int) % 4).toNat, D1.down⟩ x y1 y2 s1 v1 (i + bsum (os.take i))) := HVF.out.wF _ _
        have HRG : Hid ((⟨D1.fs, D1.room, ((f1 : Int) % 4).toNat, D1.down⟩ : DD).room = 65536) := HRF.out
        have HDG : Hid ((⟨D1.fs, D1.room, ((f1 : Int) % 4).toNat, D1.down⟩ : DD).down = false) := HDF.out
        clear hdG hkG hf1 HAR HQF HVF HRF HDF
        generalize (⟨D1.fs, D1.room, ((f1 : Int) % 4).toNat, D1.down⟩ : DD) = D2 at *
        obtain ⟨ho1, ho2, ho3⟩ := left_open HVG.out HDG.out HQG.out.dx.room.2.2
        have HO := Lib.hid (vopen_any wG (HE2.out.below HQG.out.low HE2.out.lt) HG2.out.1 HQG.out.dx HDG.out (by have := HVG.out.few 0; omega) (fun _ h => by rw [ho1] at h; cases h))
        have HRM : Hid ((opnD D2 0).room = 65536) := (opnD_room _ _).trans HRG.out
        have HV1 : Hid (v1.body.length ≤ 2000 ∧ v1.after.length ≤ 1000 ∧ ∀ r ∈ v1.after, r.length ≤ 2000) := ⟨HVG.out.bl, by have := HVG.out.al; have := HNT.out; omega, HVG.out.ax⟩
        go_wp2_with fail
        refine HO.out.mono ?_
        rintro e wH ⟨hkH, hsH⟩
        clear HO HVG HRG HDG
        rcases ho3 with ⟨hz, hlv, -⟩ | ⟨hz, -, hlv⟩
        · rcases hsH with ⟨hc, _⟩ | ⟨_, vv, rb2, sb2, vb2, hv, rfl, hsH⟩
          · exact absurd hz hc
          rw [ho1] at hv
          obtain rfl := Option.some.inj hv
          rw [ho2] at hsH
          have HXH := Lib.hid hsH
          have HQH := Lib.hid (HQG.out.kt hkH hsH.dx)
          have HLH := Lib.hid hlv
          clear hsH hlv hkH hz ho1 ho2 HQG
          have HV3 : Hid (∃ x4 z1 z2, Vd (crashD [u3, u4, u5] (opnD D2 0)) x4 z1 z2 s1 v1 (i + bsum (os.take i))) := by
            obtain ⟨_, x4, z1, z2, hv4, _⟩ := HLH.out
            exact ⟨x4, z1, z2, hv4.crash _⟩
          clear HLH
          generalize opnD D2 0 = D3 at *
          skip
          -- Crash(units[3:]...), and Open: world wH, HQH : KQ D3; HV3
          have hrw := Below.keepOld HQH.out.low HQ2.out
          have hn2 : Ns wH (some ⟨w.heap.size + 1, 3, none⟩) [u3, u4, u5].length 3 [u3, u4, u5] := ns_sub hrw (fun j u hj => by
            match j, hj with
            | 0, hj => exact hj
            | 1, hj => exact hj
            | 2, hj => exact hj
            | j + 3, hj => cases hj) (show (3 : Nat) ≤ 3 by decide) (by decide) (fun x hx => hun x (by
              simp only [List.mem_cons, List.not_mem_nil, or_false] at hx ⊢
              rcases hx with h | h | h <;> simp [h]))
          have HC2 := Lib.hid (scrash wH HQH.out.dx [u3, u4, u5] (some ⟨w.heap.size + 1, 3, none⟩) 3 hn2 (HAP.out wH HQH.out.low 3))
          clear hrw hn2
          have hsl2 := HSL2.out
          go_wp2_with fail
          refine HC2.out.mono ?_
          rintro e wI ⟨rfl, hdI, hkI⟩
          have HKI := Lib.hid hkI
          have HDI := Lib.hid hdI
          have HQI := Lib.hid (HQH.out.kt hkI hdI)
          have HRI : Hid ((crashD [u3, u4, u5] D3).room = 65536) := HRM.out
          have HFI : Hid ((crashD [u3, u4, u5] D3).down = false ∧ (crashD [u3, u4, u5] D3).fuse = 0) := ⟨rfl, rfl⟩
          clear hdI hkI HC2 HQH hsl2
          generalize crashD [u3, u4, u5] D3 = D4 at *
          obtain ⟨x4, z1, z2, hv4⟩ := HV3.out
          obtain ⟨ht1, ht2, ht3⟩ := left_open hv4 HFI.out.1 HQI.out.dx.room.2.2
          rcases ht3 with ⟨hz, hlv, hfz⟩ | ⟨_, hne, _⟩
          rotate_left
          · exact absurd HFI.out.2 hne
          have HO2 := Lib.hid (vopen_any wI (HE2.out.below HQI.out.low HE2.out.lt) HG2.out.1 HQI.out.dx HFI.out.1 (by have := hv4.few 0; omega) (fun _ h => by rw [ht1] at h; cases h))
          go_wp2_with fail
          refine HO2.out.mono ?_
          rintro e wJ ⟨hkJ, hsJ⟩
          rcases hsJ with ⟨hc, _⟩ | ⟨_, vv, rb3, sb3, vb3, hv, rfl, hsJ⟩
          · exact absurd hz hc
          rw [ht1] at hv
          obtain rfl := Option.some.inj hv
          rw [ht2] at hsJ
          have HKJ := Lib.hid hkJ
          have HXJ := Lib.hid hsJ
          have HQJ := Lib.hid (HQI.out.kt hkJ hsJ.dx)
          have HLJ := Lib.hid hlv
          have HFJ : Hid ((opnD D4 0).fuse = 0) := hfz HFI.out.2
          have HRJ : Hid ((opnD D4 0).room = 65536) := (opnD_room _ _).trans HRI.out
          clear hsJ hkJ hlv hfz hz ht1 ht2 hv4 HO2 HV3 HRI HFI HQI HRM
          generalize opnD D4 0 = D5 at *
          have HX2I := Lib.hid (HXH.out.kt HKI.out HDI.out)
          have HX2J := Lib.hid (HX2I.out.kt HKJ.out HXJ.out.dx)
          clear HXH HX2I HKI HDI HKJ
          have HSX := Lib.hid (seen_any wJ HX2J.out (by have := HV1.out.1; omega) (by have := HV1.out.2.1; omega) (fun x hx => by have := HV1.out.2.2 x hx; omega))
          clear HX2J
          go_wp2_with fail
          refine HSX.out.mono ?_
          rintro e wK ⟨xK, rfl, ⟨pK, cK, rfl, hoK⟩, hbK⟩
          have HWK := Lib.hid (own_ws hoK)
          have HXK := Lib.hid (HXJ.out.below hbK)
          have HQK := Lib.hid (HQJ.out.below hbK)
          clear hoK hbK HSX HXJ HQJ
          have HSY := Lib.hid (seen_any wK HXK.out (by have := HV1.out.1; omega) (by have := HV1.out.2.1; omega) (fun x hx => by have := HV1.out.2.2 x hx; omega))
          go_wp2_with fail
          refine HSY.out.mono ?_
          rintro e wL ⟨xL, rfl, ⟨pL, cL, rfl, hoL⟩, hbL⟩
          have HWL := Lib.hid (own_ws hoL)
          have HWKL := Lib.hid (HWK.out.below hbL)
          have HXL := Lib.hid (HXK.out.below hbL)
          have HQL := Lib.hid (HQK.out.below hbL)
          clear hoL hbL HSY HXK HQK HWK
          have hsa := same_any v1 v1 pK pL cK cL wL HWKL.out HWL.out
          rw [sameB_refl v1 v1 rfl rfl rfl] at hsa
          have HSA := Lib.hid hsa
          clear hsa HWL HWKL
          go_wp2_with fail
          refine HSA.out.mono ?_
          rintro e wM ⟨rfl, hbM⟩
          have HXM := Lib.hid (HXL.out.below hbM)
          have HQM := Lib.hid (HQL.out.below hbM)
          clear hbM HSA HXL HQL
          skip
          go_upto_region 34 with fail
          skip
          -- world wM; HQM, HXM: the boxes, and y
          have hrn : ∀ y, KV w2.heap.size wM y → y.rangeAt nb 0 (seA a pn a.after.length cn).toList := fun y hy => row_rangeV (hy.row HQM.out.nrow (by decide) (by decide) (by decide) (by decide) (by decide))
          have hrx : ∀ y, KV w2.heap.size wM y → y.rangeAt xb 0 (seA b px b.after.length cx).toList := fun y hy => row_rangeV (hy.row HQM.out.xrow (by decide) (by decide) (by decide) (by decide) (by decide))
          have HRN := Lib.hid hrn
          have HRX := Lib.hid hrx
          clear hrn hrx
          refine wp_region_tree (KV w2.heap.size wM) (.take 0 (.take 2 (.one 1 (.one 3 (.take 4 (.take 5 (.take 7 (.one 6 (.one 8 (.take 9 (.take 10 (.take 11 (.one 12 (.one 13 (.take 14 (.take 15 (.take 16 (.one 17 (.take 18 (.take 19 .nil)))))))))))))))))))) (by kernel_rfl) (by kernel_rfl) (KV.of_below (below_drew1 _ _)) ?_
          have hyd : Below wM.heap.size wM wM.drew := below_drew1 _ _
          have HKD := Lib.hid (KV.of_below (base := w2.heap.size) hyd)
          have HXD := Lib.hid (HXM.out.below hyd)
          have HQD := Lib.hid (HQM.out.below hyd)
          clear hyd HQM HXM
          generalize wM.drew = wd at *
          (apply tree_take; (· rfl); (· rfl); (· (intro w' hb'; go_simp; try with_reducible rfl)); try simp only [Act.put, List.setIfInBounds_toArray, List.set_cons_zero, List.set_cons_succ])
          refine tree_load rfl (by rfl) 51 _ rfl nb 0 rfl (seA a pn a.after.length cn) _ (fun w' hb => HRN.out w' hb) Tryz.underlying51 rfl (infoSe _ rfl) ?_
          try simp only [Act.put, List.setIfInBounds_toArray, List.set_cons_zero, List.set_cons_succ]
          have HS1 := Lib.hid (seen_any wd HXD.out (by have := HV1.out.1; omega) (by have := HV1.out.2.1; omega) (fun x hx => by have := HV1.out.2.2 x hx; omega))
          refine tree_one rfl (by rfl) (fun K hK => ?_)
          go_simp
          refine HS1.out.mono ?_
          rintro e we ⟨xe, rfl, ⟨pe, ce, rfl, hoe⟩, hbe⟩
          have HKE := Lib.hid (HKD.out.next hbe)
          have HXE := Lib.hid (HXD.out.below hbe)
          have HQE := Lib.hid (HQD.out.below hbe)
          have HWE := Lib.hid (own_ws hoe)
          refine Shut.out hK _ _ HKE.out ?_
          clear hK K hbe hoe HS1 HKD HXD HQD
          try simp only [Act.put, List.setIfInBounds_toArray, List.set_cons_zero, List.set_cons_succ]
          have HS2 := Lib.hid (same_any v1 a pe pn ce cn we HWE.out (own_ws HQE.out.nown))
          refine tree_one rfl (by rfl) (fun K hK => ?_)
          go_simp
          refine HS2.out.mono ?_
          rintro e wf ⟨rfl, hbf⟩
          have HKG := Lib.hid (HKE.out.next hbf)
          have HXG := Lib.hid (HXE.out.below hbf)
          have HQG := Lib.hid (HQE.out.below hbf)
          refine Shut.out hK _ _ HKG.out ?_
          clear hK K hbf HS2 HKE HXE HQE HWE
          try simp only [Act.put, List.setIfInBounds_toArray, List.set_cons_zero, List.set_cons_succ]
          (apply tree_take; (· rfl); (· rfl); (· (intro w' hb'; go_simp; try with_reducible rfl)); try simp only [Act.put, List.setIfInBounds_toArray, List.set_cons_zero, List.set_cons_succ])
          by_cases hsb : sameB v1 a = true
          · rw [hsb]
            clear hsb
            (refine tree_take_no rfl (by rfl) ?_; try simp only [Act.put, List.setIfInBounds_toArray, List.set_cons_zero, List.set_cons_succ])
            (refine tree_take_no rfl (by rfl) ?_; try simp only [Act.put, List.setIfInBounds_toArray, List.set_cons_zero, List.set_cons_succ])
            (refine tree_one_no rfl (by rfl) HKG.out ?_; try simp only [Act.put, List.setIfInBounds_toArray, List.set_cons_zero, List.set_cons_succ])
            (refine tree_one_no rfl (by rfl) HKG.out ?_; try simp only [Act.put, List.setIfInBounds_toArray, List.set_cons_zero, List.set_cons_succ])
            skip
            -- ops 9 .. 19: world wf
            (apply tree_take; (· rfl); (· rfl); (· (intro w' hb'; go_simp; try with_reducible rfl)); try simp only [Act.put, List.setIfInBounds_toArray, List.set_cons_zero, List.set_cons_succ])
            (apply tree_take; (· rfl); (· rfl); (· (intro w' hb'; go_simp; try with_reducible rfl)); try simp only [Act.put, List.setIfInBounds_toArray, List.set_cons_zero, List.set_cons_succ])
            (apply tree_take; (· rfl); (· rfl); (· (intro w' hb'; go_simp; try with_reducible rfl)); try simp only [Act.put, List.setIfInBounds_toArray, List.set_cons_zero, List.set_cons_succ])
            have hal := Below.allocs wf (.cells #[.int .u8 1] 5)
            have hrow := heap_alloc_last wf (.cells #[.int .u8 1] 5)
            have HKQ := Lib.hid (HKG.out.next hal)
            have HXQ := Lib.hid (HXG.out.below hal)
            have HQQ := Lib.hid (HQG.out.below hal)
            refine tree_one rfl (by rfl) (fun K hK => ?_)
            go_simp
            refine Shut.out hK _ _ HKQ.out ?_
            clear hK K hal HKG HXG HQG
            try simp only [Act.put, List.setIfInBounds_toArray, List.set_cons_zero, List.set_cons_succ]
            have hp := vput_any _ HXQ.out (some ⟨wf.heap.size, 0, none⟩) 1 [1] (fun w' hk => bs_row (hk.row hrow (by decide) (by decide)) rfl (by decide)) (by decide) (by have := HV1.out.2.1; omega) (by have := HLJ.out.few 0; omega)
            unfold VPutP at hp
            rcases live_put (r := [1]) HLJ.out HRJ.out (by have := HNT.out; show (i + bsum (os.take i)) + (1 + 1) ≤ 1100; omega) (by decide) with ⟨e1, -, -⟩ | ⟨-, -, hne, -⟩
            rotate_left
            · exact absurd HFJ.out hne
            rw [e1] at hp
            have HP1 := Lib.hid hp
            clear hp hrow e1
            generalize wf.alloc (.cells #[.int .u8 1] 5) = wq at *
            refine tree_one rfl (by rfl) (fun K hK => ?_)
            go_simp
            refine HP1.out.mono ?_
            rintro e wr9 ⟨rfl, -, hk9⟩
            have HKR := Lib.hid (HKQ.out.trans hk9)
            have HLR := Lib.hid (HQQ.out.low.trans (hk9.below HQQ.out.low.size))
            refine Shut.out hK _ _ HKR.out ?_
            clear hK K hk9 HP1 HKQ HXQ HQQ
            try simp only [Act.put, List.setIfInBounds_toArray, List.set_cons_zero, List.set_cons_succ]
            (apply tree_take; (· rfl); (· rfl); (· (intro w' hb'; go_simp; try with_reducible rfl)); try simp only [Act.put, List.setIfInBounds_toArray, List.set_cons_zero, List.set_cons_succ])
            (apply tree_take; (· rfl); (· rfl); (· (intro w' hb'; go_simp; try with_reducible rfl)); try simp only [Act.put, List.setIfInBounds_toArray, List.set_cons_zero, List.set_cons_succ])
            (apply tree_take; (· rfl); (· rfl); (· (intro w' hb'; go_simp; try with_reducible rfl)); try simp only [Act.put, List.setIfInBounds_toArray, List.set_cons_zero, List.set_cons_succ])
            have HAL := Lib.hid (alive22_any wr9 (HE2.out.below HLR.out HE2.out.lt))
            refine tree_one rfl (by rfl) (fun K hK => ?_)
            go_simp
            refine HAL.out.mono ?_
            rintro e ws ⟨rfl, hbs⟩
            have HBF : Hid (Below w.heap.size w ws) := HBZ.out.trans ((HLR.out.trans (hbs.mono HLR.out.size)).mono HBZ.out.size)
            refine Shut.out hK _ _ (HKR.out.next hbs) ?_
            clear hK K hbs HAL HKR HLR
            try simp only [Act.put, List.setIfInBounds_toArray, List.set_cons_zero, List.set_cons_succ]
            (apply tree_take; (· rfl); (· rfl); (· (intro w' hb'; go_simp; try with_reducible rfl)); try simp only [Act.put, List.setIfInBounds_toArray, List.set_cons_zero, List.set_cons_succ])
            (apply tree_take; (· rfl); (· rfl); (· (intro w' hb'; go_simp; try with_reducible rfl)); try simp only [Act.put, List.setIfInBounds_toArray, List.set_cons_zero, List.set_cons_succ])
            refine tree_nil ?_
            go_wp2_with fail
            go_ret
            exact ⟨rfl, HBF.out⟩
          · have hv1b : v1 = b := HPV.out.elim (fun h => absurd (sameB_refl v1 a (by rw [h]) (by rw [h]) (by rw [h])) hsb) id
            have hsf : sameB v1 a = false := by simpa using hsb
            rw [hsf]
            have HSB : Hid (sameB v1 b = true) := sameB_refl v1 b (by rw [← hv1b]) (by rw [← hv1b]) (by rw [← hv1b])
            clear hsb hsf hv1b
            (apply tree_take; (· rfl); (· rfl); (· (intro w' hb'; go_simp; try with_reducible rfl)); try simp only [Act.put, List.setIfInBounds_toArray, List.set_cons_zero, List.set_cons_succ])
            refine tree_load rfl (by rfl) 51 _ rfl xb 0 rfl (seA b px b.after.length cx) _ (fun w' hb => HRX.out w' hb) Tryz.underlying51 rfl (infoSe _ rfl) ?_
            try simp only [Act.put, List.setIfInBounds_toArray, List.set_cons_zero, List.set_cons_succ]
            have HS1 := Lib.hid (seen_any wf HXG.out (by have := HV1.out.1; omega) (by have := HV1.out.2.1; omega) (fun x hx => by have := HV1.out.2.2 x hx; omega))
            refine tree_one rfl (by rfl) (fun K hK => ?_)
            go_simp
            refine HS1.out.mono ?_
            rintro e wg ⟨xg, rfl, ⟨pg, cg, rfl, hog2⟩, hbg⟩
            have HKH := Lib.hid (HKG.out.next hbg)
            have HXH := Lib.hid (HXG.out.below hbg)
            have HQH := Lib.hid (HQG.out.below hbg)
            have HWH := Lib.hid (own_ws hog2)
            refine Shut.out hK _ _ HKH.out ?_
            clear hK K hbg hog2 HS1 HKG HXG HQG
            try simp only [Act.put, List.setIfInBounds_toArray, List.set_cons_zero, List.set_cons_succ]
            have hs2 := same_any v1 b pg px cg cx wg HWH.out (own_ws HQH.out.xown)
            rw [HSB.out] at hs2
            have HS2 := Lib.hid hs2
            clear hs2
            refine tree_one rfl (by rfl) (fun K hK => ?_)
            go_simp
            refine HS2.out.mono ?_
            rintro e wh ⟨rfl, hbh⟩
            have HKI := Lib.hid (HKH.out.next hbh)
            have HXI := Lib.hid (HXH.out.below hbh)
            have HQI := Lib.hid (HQH.out.below hbh)
            refine Shut.out hK _ _ HKI.out ?_
            clear hK K hbh HS2 HKH HXH HQH HWH
            try simp only [Act.put, List.setIfInBounds_toArray, List.set_cons_zero, List.set_cons_succ]
            skip
            -- ops 9 .. 19: world wh
            (apply tree_take; (· rfl); (· rfl); (· (intro w' hb'; go_simp; try with_reducible rfl)); try simp only [Act.put, List.setIfInBounds_toArray, List.set_cons_zero, List.set_cons_succ])
            (apply tree_take; (· rfl); (· rfl); (· (intro w' hb'; go_simp; try with_reducible rfl)); try simp only [Act.put, List.setIfInBounds_toArray, List.set_cons_zero, List.set_cons_succ])
            (apply tree_take; (· rfl); (· rfl); (· (intro w' hb'; go_simp; try with_reducible rfl)); try simp only [Act.put, List.setIfInBounds_toArray, List.set_cons_zero, List.set_cons_succ])
            have hal := Below.allocs wh (.cells #[.int .u8 1] 5)
            have hrow := heap_alloc_last wh (.cells #[.int .u8 1] 5)
            have HKQ := Lib.hid (HKI.out.next hal)
            have HXQ := Lib.hid (HXI.out.below hal)
            have HQQ := Lib.hid (HQI.out.below hal)
            refine tree_one rfl (by rfl) (fun K hK => ?_)
            go_simp
            refine Shut.out hK _ _ HKQ.out ?_
            clear hK K hal HKI HXI HQI
            try simp only [Act.put, List.setIfInBounds_toArray, List.set_cons_zero, List.set_cons_succ]
            have hp := vput_any _ HXQ.out (some ⟨wh.heap.size, 0, none⟩) 1 [1] (fun w' hk => bs_row (hk.row hrow (by decide) (by decide)) rfl (by decide)) (by decide) (by have := HV1.out.2.1; omega) (by have := HLJ.out.few 0; omega)
            unfold VPutP at hp
            rcases live_put (r := [1]) HLJ.out HRJ.out (by have := HNT.out; show (i + bsum (os.take i)) + (1 + 1) ≤ 1100; omega) (by decide) with ⟨e1, -, -⟩ | ⟨-, -, hne, -⟩
            rotate_left
            · exact absurd HFJ.out hne
            rw [e1] at hp
            have HP1 := Lib.hid hp
            clear hp hrow e1
            generalize wh.alloc (.cells #[.int .u8 1] 5) = wq at *
            refine tree_one rfl (by rfl) (fun K hK => ?_)
            go_simp
            refine HP1.out.mono ?_
            rintro e wr9 ⟨rfl, -, hk9⟩
            have HKR := Lib.hid (HKQ.out.trans hk9)
            have HLR := Lib.hid (HQQ.out.low.trans (hk9.below HQQ.out.low.size))
            refine Shut.out hK _ _ HKR.out ?_
            clear hK K hk9 HP1 HKQ HXQ HQQ
            try simp only [Act.put, List.setIfInBounds_toArray, List.set_cons_zero, List.set_cons_succ]
            (apply tree_take; (· rfl); (· rfl); (· (intro w' hb'; go_simp; try with_reducible rfl)); try simp only [Act.put, List.setIfInBounds_toArray, List.set_cons_zero, List.set_cons_succ])
            (apply tree_take; (· rfl); (· rfl); (· (intro w' hb'; go_simp; try with_reducible rfl)); try simp only [Act.put, List.setIfInBounds_toArray, List.set_cons_zero, List.set_cons_succ])
            (apply tree_take; (· rfl); (· rfl); (· (intro w' hb'; go_simp; try with_reducible rfl)); try simp only [Act.put, List.setIfInBounds_toArray, List.set_cons_zero, List.set_cons_succ])
            have HAL := Lib.hid (alive22_any wr9 (HE2.out.below HLR.out HE2.out.lt))
            refine tree_one rfl (by rfl) (fun K hK => ?_)
            go_simp
            refine HAL.out.mono ?_
            rintro e ws ⟨rfl, hbs⟩
            have HBF : Hid (Below w.heap.size w ws) := HBZ.out.trans ((HLR.out.trans (hbs.mono HLR.out.size)).mono HBZ.out.size)
            refine Shut.out hK _ _ (HKR.out.next hbs) ?_
            clear hK K hbs HAL HKR HLR
            try simp only [Act.put, List.setIfInBounds_toArray, List.set_cons_zero, List.set_cons_succ]
            (apply tree_take; (· rfl); (· rfl); (· (intro w' hb'; go_simp; try with_reducible rfl)); try simp only [Act.put, List.setIfInBounds_toArray, List.set_cons_zero, List.set_cons_succ])
            (apply tree_take; (· rfl); (· rfl); (· (intro w' hb'; go_simp; try with_reducible rfl)); try simp only [Act.put, List.setIfInBounds_toArray, List.set_cons_zero, List.set_cons_succ])
            refine tree_nil ?_
            go_wp2_with fail
            go_ret
            exact ⟨rfl, HBF.out⟩
        · rcases hsH with ⟨_, rfl, hdH⟩ | ⟨hc, _⟩
          rotate_left
          · rw [hz] at hc; exact absurd hc (by decide)
          have HQH := Lib.hid (HQG.out.kt hkH hdH)
          have HV3 : Hid (∃ x4 z1 z2, Vd (crashD [u3, u4, u5] (opnD D2 0)) x4 z1 z2 s1 v1 (i + bsum (os.take i))) := by
            obtain ⟨x4, hv4⟩ := hlv [u3, u4, u5]
            exact ⟨x4, y1, y2, hv4⟩
          rw [hz]
          clear hdH hlv hkH hz ho1 ho2 HQG
          generalize opnD D2 0 = D3 at *
          skip
          -- Crash(units[3:]...), and Open: world wH, HQH : KQ D3; HV3
          have hrw := Below.keepOld HQH.out.low HQ2.out
          have hn2 : Ns wH (some ⟨w.heap.size + 1, 3, none⟩) [u3, u4, u5].length 3 [u3, u4, u5] := ns_sub hrw (fun j u hj => by
            match j, hj with
            | 0, hj => exact hj
            | 1, hj => exact hj
            | 2, hj => exact hj
            | j + 3, hj => cases hj) (show (3 : Nat) ≤ 3 by decide) (by decide) (fun x hx => hun x (by
              simp only [List.mem_cons, List.not_mem_nil, or_false] at hx ⊢
              rcases hx with h | h | h <;> simp [h]))
          have HC2 := Lib.hid (scrash wH HQH.out.dx [u3, u4, u5] (some ⟨w.heap.size + 1, 3, none⟩) 3 hn2 (HAP.out wH HQH.out.low 3))
          clear hrw hn2
          have hsl2 := HSL2.out
          go_wp2_with fail
          refine HC2.out.mono ?_
          rintro e wI ⟨rfl, hdI, hkI⟩
          have HKI := Lib.hid hkI
          have HDI := Lib.hid hdI
          have HQI := Lib.hid (HQH.out.kt hkI hdI)
          have HRI : Hid ((crashD [u3, u4, u5] D3).room = 65536) := HRM.out
          have HFI : Hid ((crashD [u3, u4, u5] D3).down = false ∧ (crashD [u3, u4, u5] D3).fuse = 0) := ⟨rfl, rfl⟩
          clear hdI hkI HC2 HQH hsl2
          generalize crashD [u3, u4, u5] D3 = D4 at *
          obtain ⟨x4, z1, z2, hv4⟩ := HV3.out
          obtain ⟨ht1, ht2, ht3⟩ := left_open hv4 HFI.out.1 HQI.out.dx.room.2.2
          rcases ht3 with ⟨hz, hlv, hfz⟩ | ⟨_, hne, _⟩
          rotate_left
          · exact absurd HFI.out.2 hne
          have HO2 := Lib.hid (vopen_any wI (HE2.out.below HQI.out.low HE2.out.lt) HG2.out.1 HQI.out.dx HFI.out.1 (by have := hv4.few 0; omega) (fun _ h => by rw [ht1] at h; cases h))
          go_wp2_with fail
          refine HO2.out.mono ?_
          rintro e wJ ⟨hkJ, hsJ⟩
          rcases hsJ with ⟨hc, _⟩ | ⟨_, vv, rb3, sb3, vb3, hv, rfl, hsJ⟩
          · exact absurd hz hc
          rw [ht1] at hv
          obtain rfl := Option.some.inj hv
          rw [ht2] at hsJ
          have HKJ := Lib.hid hkJ
          have HXJ := Lib.hid hsJ
          have HQJ := Lib.hid (HQI.out.kt hkJ hsJ.dx)
          have HLJ := Lib.hid hlv
          have HFJ : Hid ((opnD D4 0).fuse = 0) := hfz HFI.out.2
          have HRJ : Hid ((opnD D4 0).room = 65536) := (opnD_room _ _).trans HRI.out
          clear hsJ hkJ hlv hfz hz ht1 ht2 hv4 HO2 HV3 HRI HFI HQI HRM
          generalize opnD D4 0 = D5 at *
          clear HKI HDI HKJ
          skip
          go_upto_region 34 with fail
          skip
          -- world wJ; HQJ, HXJ: the boxes, and y
          have hrn : ∀ y, KV w2.heap.size wJ y → y.rangeAt nb 0 (seA a pn a.after.length cn).toList := fun y hy => row_rangeV (hy.row HQJ.out.nrow (by decide) (by decide) (by decide) (by decide) (by decide))
          have hrx : ∀ y, KV w2.heap.size wJ y → y.rangeAt xb 0 (seA b px b.after.length cx).toList := fun y hy => row_rangeV (hy.row HQJ.out.xrow (by decide) (by decide) (by decide) (by decide) (by decide))
          have HRN := Lib.hid hrn
          have HRX := Lib.hid hrx
          clear hrn hrx
          refine wp_region_tree (KV w2.heap.size wJ) (.take 0 (.take 2 (.one 1 (.one 3 (.take 4 (.take 5 (.take 7 (.one 6 (.one 8 (.take 9 (.take 10 (.take 11 (.one 12 (.one 13 (.take 14 (.take 15 (.take 16 (.one 17 (.take 18 (.take 19 .nil)))))))))))))))))))) (by kernel_rfl) (by kernel_rfl) (KV.of_below (below_drew1 _ _)) ?_
          have hyd : Below wJ.heap.size wJ wJ.drew := below_drew1 _ _
          have HKD := Lib.hid (KV.of_below (base := w2.heap.size) hyd)
          have HXD := Lib.hid (HXJ.out.below hyd)
          have HQD := Lib.hid (HQJ.out.below hyd)
          clear hyd HQJ HXJ
          generalize wJ.drew = wd at *
          (apply tree_take; (· rfl); (· rfl); (· (intro w' hb'; go_simp; try with_reducible rfl)); try simp only [Act.put, List.setIfInBounds_toArray, List.set_cons_zero, List.set_cons_succ])
          refine tree_load rfl (by rfl) 51 _ rfl nb 0 rfl (seA a pn a.after.length cn) _ (fun w' hb => HRN.out w' hb) Tryz.underlying51 rfl (infoSe _ rfl) ?_
          try simp only [Act.put, List.setIfInBounds_toArray, List.set_cons_zero, List.set_cons_succ]
          have HS1 := Lib.hid (seen_any wd HXD.out (by have := HV1.out.1; omega) (by have := HV1.out.2.1; omega) (fun x hx => by have := HV1.out.2.2 x hx; omega))
          refine tree_one rfl (by rfl) (fun K hK => ?_)
          go_simp
          refine HS1.out.mono ?_
          rintro e we ⟨xe, rfl, ⟨pe, ce, rfl, hoe⟩, hbe⟩
          have HKE := Lib.hid (HKD.out.next hbe)
          have HXE := Lib.hid (HXD.out.below hbe)
          have HQE := Lib.hid (HQD.out.below hbe)
          have HWE := Lib.hid (own_ws hoe)
          refine Shut.out hK _ _ HKE.out ?_
          clear hK K hbe hoe HS1 HKD HXD HQD
          try simp only [Act.put, List.setIfInBounds_toArray, List.set_cons_zero, List.set_cons_succ]
          have HS2 := Lib.hid (same_any v1 a pe pn ce cn we HWE.out (own_ws HQE.out.nown))
          refine tree_one rfl (by rfl) (fun K hK => ?_)
          go_simp
          refine HS2.out.mono ?_
          rintro e wf ⟨rfl, hbf⟩
          have HKG := Lib.hid (HKE.out.next hbf)
          have HXG := Lib.hid (HXE.out.below hbf)
          have HQG := Lib.hid (HQE.out.below hbf)
          refine Shut.out hK _ _ HKG.out ?_
          clear hK K hbf HS2 HKE HXE HQE HWE
          try simp only [Act.put, List.setIfInBounds_toArray, List.set_cons_zero, List.set_cons_succ]
          (apply tree_take; (· rfl); (· rfl); (· (intro w' hb'; go_simp; try with_reducible rfl)); try simp only [Act.put, List.setIfInBounds_toArray, List.set_cons_zero, List.set_cons_succ])
          by_cases hsb : sameB v1 a = true
          · rw [hsb]
            clear hsb
            (refine tree_take_no rfl (by rfl) ?_; try simp only [Act.put, List.setIfInBounds_toArray, List.set_cons_zero, List.set_cons_succ])
            (refine tree_take_no rfl (by rfl) ?_; try simp only [Act.put, List.setIfInBounds_toArray, List.set_cons_zero, List.set_cons_succ])
            (refine tree_one_no rfl (by rfl) HKG.out ?_; try simp only [Act.put, List.setIfInBounds_toArray, List.set_cons_zero, List.set_cons_succ])
            (refine tree_one_no rfl (by rfl) HKG.out ?_; try simp only [Act.put, List.setIfInBounds_toArray, List.set_cons_zero, List.set_cons_succ])
            skip
            -- ops 9 .. 19: world wf
            (apply tree_take; (· rfl); (· rfl); (· (intro w' hb'; go_simp; try with_reducible rfl)); try simp only [Act.put, List.setIfInBounds_toArray, List.set_cons_zero, List.set_cons_succ])
            (apply tree_take; (· rfl); (· rfl); (· (intro w' hb'; go_simp; try with_reducible rfl)); try simp only [Act.put, List.setIfInBounds_toArray, List.set_cons_zero, List.set_cons_succ])
            (apply tree_take; (· rfl); (· rfl); (· (intro w' hb'; go_simp; try with_reducible rfl)); try simp only [Act.put, List.setIfInBounds_toArray, List.set_cons_zero, List.set_cons_succ])
            have hal := Below.allocs wf (.cells #[.int .u8 1] 5)
            have hrow := heap_alloc_last wf (.cells #[.int .u8 1] 5)
            have HKQ := Lib.hid (HKG.out.next hal)
            have HXQ := Lib.hid (HXG.out.below hal)
            have HQQ := Lib.hid (HQG.out.below hal)
            refine tree_one rfl (by rfl) (fun K hK => ?_)
            go_simp
            refine Shut.out hK _ _ HKQ.out ?_
            clear hK K hal HKG HXG HQG
            try simp only [Act.put, List.setIfInBounds_toArray, List.set_cons_zero, List.set_cons_succ]
            have hp := vput_any _ HXQ.out (some ⟨wf.heap.size, 0, none⟩) 1 [1] (fun w' hk => bs_row (hk.row hrow (by decide) (by decide)) rfl (by decide)) (by decide) (by have := HV1.out.2.1; omega) (by have := HLJ.out.few 0; omega)
            unfold VPutP at hp
            rcases live_put (r := [1]) HLJ.out HRJ.out (by have := HNT.out; show (i + bsum (os.take i)) + (1 + 1) ≤ 1100; omega) (by decide) with ⟨e1, -, -⟩ | ⟨-, -, hne, -⟩
            rotate_left
            · exact absurd HFJ.out hne
            rw [e1] at hp
            have HP1 := Lib.hid hp
            clear hp hrow e1
            generalize wf.alloc (.cells #[.int .u8 1] 5) = wq at *
            refine tree_one rfl (by rfl) (fun K hK => ?_)
            go_simp
            refine HP1.out.mono ?_
            rintro e wr9 ⟨rfl, -, hk9⟩
            have HKR := Lib.hid (HKQ.out.trans hk9)
            have HLR := Lib.hid (HQQ.out.low.trans (hk9.below HQQ.out.low.size))
            refine Shut.out hK _ _ HKR.out ?_
            clear hK K hk9 HP1 HKQ HXQ HQQ
            try simp only [Act.put, List.setIfInBounds_toArray, List.set_cons_zero, List.set_cons_succ]
            (apply tree_take; (· rfl); (· rfl); (· (intro w' hb'; go_simp; try with_reducible rfl)); try simp only [Act.put, List.setIfInBounds_toArray, List.set_cons_zero, List.set_cons_succ])
            (apply tree_take; (· rfl); (· rfl); (· (intro w' hb'; go_simp; try with_reducible rfl)); try simp only [Act.put, List.setIfInBounds_toArray, List.set_cons_zero, List.set_cons_succ])
            (apply tree_take; (· rfl); (· rfl); (· (intro w' hb'; go_simp; try with_reducible rfl)); try simp only [Act.put, List.setIfInBounds_toArray, List.set_cons_zero, List.set_cons_succ])
            have HAL := Lib.hid (alive22_any wr9 (HE2.out.below HLR.out HE2.out.lt))
            refine tree_one rfl (by rfl) (fun K hK => ?_)
            go_simp
            refine HAL.out.mono ?_
            rintro e ws ⟨rfl, hbs⟩
            have HBF : Hid (Below w.heap.size w ws) := HBZ.out.trans ((HLR.out.trans (hbs.mono HLR.out.size)).mono HBZ.out.size)
            refine Shut.out hK _ _ (HKR.out.next hbs) ?_
            clear hK K hbs HAL HKR HLR
            try simp only [Act.put, List.setIfInBounds_toArray, List.set_cons_zero, List.set_cons_succ]
            (apply tree_take; (· rfl); (· rfl); (· (intro w' hb'; go_simp; try with_reducible rfl)); try simp only [Act.put, List.setIfInBounds_toArray, List.set_cons_zero, List.set_cons_succ])
            (apply tree_take; (· rfl); (· rfl); (· (intro w' hb'; go_simp; try with_reducible rfl)); try simp only [Act.put, List.setIfInBounds_toArray, List.set_cons_zero, List.set_cons_succ])
            refine tree_nil ?_
            go_wp2_with fail
            go_ret
            exact ⟨rfl, HBF.out⟩
          · have hv1b : v1 = b := HPV.out.elim (fun h => absurd (sameB_refl v1 a (by rw [h]) (by rw [h]) (by rw [h])) hsb) id
            have hsf : sameB v1 a = false := by simpa using hsb
            rw [hsf]
            have HSB : Hid (sameB v1 b = true) := sameB_refl v1 b (by rw [← hv1b]) (by rw [← hv1b]) (by rw [← hv1b])
            clear hsb hsf hv1b
            (apply tree_take; (· rfl); (· rfl); (· (intro w' hb'; go_simp; try with_reducible rfl)); try simp only [Act.put, List.setIfInBounds_toArray, List.set_cons_zero, List.set_cons_succ])
            refine tree_load rfl (by rfl) 51 _ rfl xb 0 rfl (seA b px b.after.length cx) _ (fun w' hb => HRX.out w' hb) Tryz.underlying51 rfl (infoSe _ rfl) ?_
            try simp only [Act.put, List.setIfInBounds_toArray, List.set_cons_zero, List.set_cons_succ]
            have HS1 := Lib.hid (seen_any wf HXG.out (by have := HV1.out.1; omega) (by have := HV1.out.2.1; omega) (fun x hx => by have := HV1.out.2.2 x hx; omega))
            refine tree_one rfl (by rfl) (fun K hK => ?_)
            go_simp
            refine HS1.out.mono ?_
            rintro e wg ⟨xg, rfl, ⟨pg, cg, rfl, hog2⟩, hbg⟩
            have HKH := Lib.hid (HKG.out.next hbg)
            have HXH := Lib.hid (HXG.out.below hbg)
            have HQH := Lib.hid (HQG.out.below hbg)
            have HWH := Lib.hid (own_ws hog2)
            refine Shut.out hK _ _ HKH.out ?_
            clear hK K hbg hog2 HS1 HKG HXG HQG
            try simp only [Act.put, List.setIfInBounds_toArray, List.set_cons_zero, List.set_cons_succ]
            have hs2 := same_any v1 b pg px cg cx wg HWH.out (own_ws HQH.out.xown)
            rw [HSB.out] at hs2
            have HS2 := Lib.hid hs2
            clear hs2
            refine tree_one rfl (by rfl) (fun K hK => ?_)
            go_simp
            refine HS2.out.mono ?_
            rintro e wh ⟨rfl, hbh⟩
            have HKI := Lib.hid (HKH.out.next hbh)
            have HXI := Lib.hid (HXH.out.below hbh)
            have HQI := Lib.hid (HQH.out.below hbh)
            refine Shut.out hK _ _ HKI.out ?_
            clear hK K hbh HS2 HKH HXH HQH HWH
            try simp only [Act.put, List.setIfInBounds_toArray, List.set_cons_zero, List.set_cons_succ]
            skip
            -- ops 9 .. 19: world wh
            (apply tree_take; (· rfl); (· rfl); (· (intro w' hb'; go_simp; try with_reducible rfl)); try simp only [Act.put, List.setIfInBounds_toArray, List.set_cons_zero, List.set_cons_succ])
            (apply tree_take; (· rfl); (· rfl); (· (intro w' hb'; go_simp; try with_reducible rfl)); try simp only [Act.put, List.setIfInBounds_toArray, List.set_cons_zero, List.set_cons_succ])
            (apply tree_take; (· rfl); (· rfl); (· (intro w' hb'; go_simp; try with_reducible rfl)); try simp only [Act.put, List.setIfInBounds_toArray, List.set_cons_zero, List.set_cons_succ])
            have hal := Below.allocs wh (.cells #[.int .u8 1] 5)
            have hrow := heap_alloc_last wh (.cells #[.int .u8 1] 5)
            have HKQ := Lib.hid (HKI.out.next hal)
            have HXQ := Lib.hid (HXI.out.below hal)
            have HQQ := Lib.hid (HQI.out.below hal)
            refine tree_one rfl (by rfl) (fun K hK => ?_)
            go_simp
            refine Shut.out hK _ _ HKQ.out ?_
            clear hK K hal HKI HXI HQI
            try simp only [Act.put, List.setIfInBounds_toArray, List.set_cons_zero, List.set_cons_succ]
            have hp := vput_any _ HXQ.out (some ⟨wh.heap.size, 0, none⟩) 1 [1] (fun w' hk => bs_row (hk.row hrow (by decide) (by decide)) rfl (by decide)) (by decide) (by have := HV1.out.2.1; omega) (by have := HLJ.out.few 0; omega)
            unfold VPutP at hp
            rcases live_put (r := [1]) HLJ.out HRJ.out (by have := HNT.out; show (i + bsum (os.take i)) + (1 + 1) ≤ 1100; omega) (by decide) with ⟨e1, -, -⟩ | ⟨-, -, hne, -⟩
            rotate_left
            · exact absurd HFJ.out hne
            rw [e1] at hp
            have HP1 := Lib.hid hp
            clear hp hrow e1
            generalize wh.alloc (.cells #[.int .u8 1] 5) = wq at *
            refine tree_one rfl (by rfl) (fun K hK => ?_)
            go_simp
            refine HP1.out.mono ?_
            rintro e wr9 ⟨rfl, -, hk9⟩
            have HKR := Lib.hid (HKQ.out.trans hk9)
            have HLR := Lib.hid (HQQ.out.low.trans (hk9.below HQQ.out.low.size))
            refine Shut.out hK _ _ HKR.out ?_
            clear hK K hk9 HP1 HKQ HXQ HQQ
            try simp only [Act.put, List.setIfInBounds_toArray, List.set_cons_zero, List.set_cons_succ]
            (apply tree_take; (· rfl); (· rfl); (· (intro w' hb'; go_simp; try with_reducible rfl)); try simp only [Act.put, List.setIfInBounds_toArray, List.set_cons_zero, List.set_cons_succ])
            (apply tree_take; (· rfl); (· rfl); (· (intro w' hb'; go_simp; try with_reducible rfl)); try simp only [Act.put, List.setIfInBounds_toArray, List.set_cons_zero, List.set_cons_succ])
            (apply tree_take; (· rfl); (· rfl); (· (intro w' hb'; go_simp; try with_reducible rfl)); try simp only [Act.put, List.setIfInBounds_toArray, List.set_cons_zero, List.set_cons_succ])
            have HAL := Lib.hid (alive22_any wr9 (HE2.out.below HLR.out HE2.out.lt))
            refine tree_one rfl (by rfl) (fun K hK => ?_)
            go_simp
            refine HAL.out.mono ?_
            rintro e ws ⟨rfl, hbs⟩
            have HBF : Hid (Below w.heap.size w ws) := HBZ.out.trans ((HLR.out.trans (hbs.mono HLR.out.size)).mono HBZ.out.size)
            refine Shut.out hK _ _ (HKR.out.next hbs) ?_
            clear hK K hbs HAL HKR HLR
            try simp only [Act.put, List.setIfInBounds_toArray, List.set_cons_zero, List.set_cons_succ]
            (apply tree_take; (· rfl); (· rfl); (· (intro w' hb'; go_simp; try with_reducible rfl)); try simp only [Act.put, List.setIfInBounds_toArray, List.set_cons_zero, List.set_cons_succ])
            (apply tree_take; (· rfl); (· rfl); (· (intro w' hb'; go_simp; try with_reducible rfl)); try simp only [Act.put, List.setIfInBounds_toArray, List.set_cons_zero, List.set_cons_succ])
            refine tree_nil ?_
            go_wp2_with fail
            go_ret
            exact ⟨rfl, HBF.out⟩
      have hdf : D.down = false := by cases hq : D.down with
        | false => rfl
        | true => exact absurd hq hdn
      rw [hdf] at HDW
      obtain ⟨hlu, ha, hb⟩ := HUP.out hdf
      obtain rfl : v = a := ha.symm
      obtain rfl : v = b := hb.symm
      clear ha hb
      have HLU0 := Lib.hid hlu
      have HSE := Lib.hid (seen_any wA HKA.out.xv (by obtain ⟨_, x, y1, y2, hv, _⟩ := hlu; have := hv.bl; omega) (by obtain ⟨_, x, y1, y2, hv, _⟩ := hlu; have := hv.al; have := HN1.out; omega) (fun x hx => by obtain ⟨_, x', y1, y2, hv, _⟩ := hlu; have := hv.ax x hx; omega))
      clear hlu hdn hdf
      go_wp2_with fail
      refine HDW.out.mono ?_
      rintro e w99 ⟨rfl, rfl⟩
      clear HDW
      go_wp2_with fail
      refine HSE.out.mono ?_
      rintro e wB ⟨x9, rfl, ⟨p9, c9, rfl, ho9⟩, hb9⟩
      have HKB := Lib.hid (HKA.out.below hb9 HKA.out.low.size)
      have HO9 := Lib.hid (own_down ho9 HKA.out.low.size)
      have HRB := Lib.hid (Below.keepOld hb9 HROW.out)
      have HNB := Lib.hid HKB.out.nrow
      clear ho9 hb9 HSE HROW HKA HGL
      go_upto_region 15 with (refine wpList_store_row rfl 51 _ _ rfl nb (seA v p9 v.after.length c9) rfl rfl 51 _ HNB.out (infoSe _ rfl) rfl (seA_one _ _ _ _) ?_)
      try simp only [Act.put]
      have HKC := Lib.hid (HKB.out.setN HO9.out)
      have HRC : Hid ((wB.setRow nb (seA v p9 v.after.length c9)).heap[og]? = some (.cells A 54 (0, 0))) := by
        show _ = _
        rw [setRow_other _ _ _ _ (fun e => by have h1 := HRB.out; rw [e, HNB.out] at h1; injection h1 with e1; injection e1 with _ e2; exact absurd e2 (by decide))]
        exact HRB.out
      have HNC := Lib.hid HKC.out.nrow
      have HXC := Lib.hid HKC.out.xrow
      have HOC := Lib.hid HKC.out.nown
      clear HKB HO9 HRB HNB
      generalize wB.setRow nb (seA v p9 v.after.length c9) = wC at *
      clear wB
      go_upto_region 16 with (first
        | ((with_reducible refine wpAt 61 ?_); refine wpList_load_row rfl 51 _ rfl nb rfl 51 (seA v p9 v.after.length c9) (0, 0) _ HNC.out Tryz.underlying51 rfl (infoSe _ rfl) ?_)
        | refine wpList_store_row rfl 51 _ _ rfl xb (seA v p9 v.after.length c9) rfl rfl 51 _ HXC.out (infoSe _ rfl) rfl (seA_one _ _ _ _) ?_)
      try simp only [Act.put, List.setIfInBounds_toArray, List.set_cons_zero, List.set_cons_succ]
      have HKD := Lib.hid (HKC.out.setX HOC.out)
      have HRD : Hid ((wC.setRow xb (seA v p9 v.after.length c9)).heap[og]? = some (.cells A 54 (0, 0))) := by
        show _ = _
        rw [setRow_other _ _ _ _ (fun e => by have h1 := HRC.out; rw [e, HXC.out] at h1; injection h1 with e1; injection e1 with _ e2; exact absurd e2 (by decide))]
        exact HRC.out
      clear HKC HRC HNC HXC HOC
      generalize wC.setRow xb (seA v p9 v.after.length c9) = wD at *
      clear wC
      obtain ⟨hk0, -, -, -, hk4⟩ := vopA_cell (o := o) (pb := pb) (cb := cb) (by rw [← HRA.out]; exact HRD.out)
      have HSTK := Lib.hid HLU0.out.few
      by_cases hkd : o.kind = 1
      · have q1 : (o.kind == 1) = true := beq_iff_eq.2 hkd
        clear hkd
        have hcv : (convert 22 9 (.slice pb o.b.length cb)).run Tryz.prog wD = .ok (.string (S o.b)) wD := Cut.bconv (HOB.out wD HKD.out.low)
        have HXD := Lib.hid HKD.out.xrow
        have HKE : Hid (KL w2.heap.size rb sb db vb nb xb D s v v (compV v o.b) p9 c9 none 0 w2 (wD.setRow xb (seA (compV v o.b) none 0 0))) := HKD.out.setX (b' := compV v o.b) (p' := none) (c' := 0) (World.ownsRow_nil _ _ _ _)
        have HRE : Hid ((wD.setRow xb (seA (compV v o.b) none 0 0)).heap[og]? = some (.cells A 54 (0, 0))) := by
          show _ = _
          rw [setRow_other _ _ _ _ (fun e => by have h1 := HRD.out; rw [e, HXD.out] at h1; injection h1 with e1; injection e1 with _ e2; exact absurd e2 (by decide))]
          exact HRD.out
        go_upto_region 18 with (first
          | refine Rdr.wpList_build rfl 51 _ rfl [(0, .bool true), (1, .string (S o.b))] rfl _ (built_se _ _) ?_
          | refine wpList_store_row rfl 51 _ _ rfl xb (seA (compV v o.b) none 0 0) rfl rfl 51 _ HXD.out (infoSe _ rfl) rfl (seA_one _ _ _ _) ?_)
        try simp only [Act.put, List.setIfInBounds_toArray, List.set_cons_zero, List.set_cons_succ]
        clear hcv hk0 hk4 HKD HRD HXD
        generalize wD.setRow xb (seA (compV v o.b) none 0 0) = wE at *
        clear wD
        obtain ⟨-, -, -, -, hk4⟩ := vopA_cell (o := o) (pb := pb) (cb := cb) (by rw [← HRA.out]; exact HRE.out)
        have hcm := vcomp_any (N := 0) wE HKE.out.xv pb cb o.b (fun w' hk => HOB.out w' (HKE.out.low.trans (hk.below HKE.out.low.size))) (by have := HN1.out; omega) (by omega) HSTK.out
        unfold VCompP at hcm
        have HCM := Lib.hid hcm
        have HRM := Lib.hid HKE.out.room
        clear hcm
        rcases live_comp (c := o.b) HLU0.out HRM.out (by have := HN1.out; omega) with ⟨hv, hl⟩ | ⟨hv, hdn2, hle⟩
        · rw [hv] at HCM
          have HLU := Lib.hid hl
          have HRM2 : Hid ((vcD D s v o.b).room = 65536) := (vcD_room _ _ _ _).trans HRM.out
          clear hv hl
          generalize vcD D s v o.b = D2 at *
          generalize vcS D s v o.b = s2 at *
          go_wp2_with fail
          refine HCM.out.mono ?_
          rintro e wF ⟨rfl, hx, hkv⟩
          have HKY := Lib.hid (HKE.out.kv hkv hx HRM2.out HKE.out.low.size)
          clear hx hkv HCM HKE HRE hk4
          skip
          -- region 22 on: world wF, HKY : KL .. D2 s2 (compV v o.b) a b ..; HLU : Live D2 s2 (compV v o.b) NN; b = (compV v o.b)
          have HDU : Hid (D2.down = false) := HLU.out.1
          have HDW := Lib.hid (xdownS wF HKY.out.xv.dx)
          rw [HDU.out] at HDW
          go_wp2_with fail
          refine HDW.out.mono ?_
          rintro e w99 ⟨rfl, rfl⟩
          have HXR := Lib.hid HKY.out.xrow
          have HNR := Lib.hid HKY.out.nrow
          have HKZ := Lib.hid (HKY.out.setN HKY.out.xown)
          clear HDW HDU HKY
          go_wp2_with (first
            | ((with_reducible refine wpAt 94 ?_); refine wpList_load_row rfl 51 _ rfl xb rfl 51 _ (0, 0) _ HXR.out Tryz.underlying51 rfl (infoSe _ rfl) ?_)
            | refine wpList_store_row rfl 51 _ _ rfl nb _ rfl rfl 51 _ HNR.out (infoSe _ rfl) rfl (seA_one _ _ _ _) ?_)
          try simp only [Act.put, List.setIfInBounds_toArray, List.set_cons_zero, List.set_cons_succ]
          go_roundw
          case rel => exact ⟨i + 1, _, _, _, _, _, _, _, _, _, HIL.out, by go_num, HKZ.out, by have h1 := HTS.out; have h2 := HLU.out.leaves (P := fun v' => v' = (compV v o.b) ∨ v' = (compV v o.b)) (.inl rfl); rw [HNN.out] at h2; exact h2, fun _ => ⟨by have h2 := HLU.out; rw [HNN.out] at h2; exact h2, rfl, rfl⟩⟩
          case measure => have := HIL.out; simp [intOf]; omega
        · have HLU := Lib.hid hle
          have HDU := Lib.hid hdn2
          have HRM2 : Hid ((vcD D s v o.b).room = 65536) := (vcD_room _ _ _ _).trans HRM.out
          clear hv hle hdn2
          generalize vcD D s v o.b = D2 at *
          generalize vcS D s v o.b = s2 at *
          generalize vcV D s v o.b = V2 at *
          go_wp2_with fail
          refine HCM.out.mono ?_
          rintro e wF ⟨rfl, hx, hkv⟩
          have HKY := Lib.hid (HKE.out.kv hkv hx HRM2.out HKE.out.low.size)
          clear hx hkv HCM HKE HRE hk4
          skip
          -- region 22 on: world wF, HKY : KL .. D2 s2 V2 a b ..; HDU : D2.down; HLU : Leaves D2 (a or b) NN
          have HDW := Lib.hid (xdownS wF HKY.out.xv.dx)
          rw [HDU.out] at HDW
          go_wp2_with fail
          refine HDW.out.mono ?_
          rintro e w99 ⟨rfl, rfl⟩
          clear HDW
          go_wp2_with fail
          go_roundw
          case rel => exact ⟨i + 1, _, _, _, _, _, _, _, _, _, HIL.out, by go_num, HKY.out, by have h2 := HLU.out; rw [HNN.out] at h2; exact h2, fun h => by rw [HDU.out] at h; cases h⟩
          case measure => have := HIL.out; simp [intOf]; omega
      · have q1 : (o.kind == 1) = false := beq_eq_false_iff_ne.2 hkd
        clear hkd
        by_cases hl0 : o.b.length = 0
        · have q2 : decide (0 < (o.b.length : Int)) = false := decide_eq_false (by omega)
          have q2' : decide (0 < o.b.length) = false := decide_eq_false (by omega)
          have HLU := Lib.hid (HLU0.out.more (m := i + bsum (os.take i) + (1 + o.b.length)) (by omega))
          have HKY := Lib.hid HKD.out
          clear HRD HSTK HLU0 HKD hl0
          go_upto_region 22 with fail
          skip
          -- region 22 on: world wD, HKY : KL .. D s2 v a b ..; HLU : Live D s2 v NN; b = v
          have HDU : Hid (D.down = false) := HLU.out.1
          have HDW := Lib.hid (xdownS wD HKY.out.xv.dx)
          rw [HDU.out] at HDW
          go_wp2_with fail
          refine HDW.out.mono ?_
          rintro e w99 ⟨rfl, rfl⟩
          have HXR := Lib.hid HKY.out.xrow
          have HNR := Lib.hid HKY.out.nrow
          have HKZ := Lib.hid (HKY.out.setN HKY.out.xown)
          clear HDW HDU HKY
          go_wp2_with (first
            | ((with_reducible refine wpAt 94 ?_); refine wpList_load_row rfl 51 _ rfl xb rfl 51 _ (0, 0) _ HXR.out Tryz.underlying51 rfl (infoSe _ rfl) ?_)
            | refine wpList_store_row rfl 51 _ _ rfl nb _ rfl rfl 51 _ HNR.out (infoSe _ rfl) rfl (seA_one _ _ _ _) ?_)
          try simp only [Act.put, List.setIfInBounds_toArray, List.set_cons_zero, List.set_cons_succ]
          go_roundw
          case rel => exact ⟨i + 1, _, _, _, _, _, _, _, _, _, HIL.out, by go_num, HKZ.out, by have h1 := HTS.out; have h2 := HLU.out.leaves (P := fun v' => v' = v ∨ v' = v) (.inl rfl); rw [HNN.out] at h2; exact h2, fun _ => ⟨by have h2 := HLU.out; rw [HNN.out] at h2; exact h2, rfl, rfl⟩⟩
          case measure => have := HIL.out; simp [intOf]; omega
        · have q2 : decide (0 < (o.b.length : Int)) = true := decide_eq_true (by omega)
          have q2' : decide (0 < o.b.length) = true := decide_eq_true (by omega)
          have HLB : Hid (1 ≤ o.b.length) := by show _ ≤ _; omega
          have HAL : Hid (v.after.length ≤ 1000) := by
            show _ ≤ _
            obtain ⟨_, x, y1, y2, hv, _⟩ := HLU0.out
            have := hv.al
            have := HN1.out
            omega
          clear hl0
          go_upto_region 20 with fail
          clear hk0 hk4 q1 q2 q2'
          have hkn : Hid (∀ w', Turns (fun k => k = xb) wD w' → w'.cell? ⟨nb, 2, none⟩ = some (.slice p9 v.after.length c9)) := fun w' ht => by
            rw [cell_of_row _ _ _ _ _ _ (ht.keep HKD.out.nrow HKD.out.ne)]; rfl
          have hko : Hid (∀ w', Turns (fun k => k = xb) wD w' → w'.cell? ⟨og, 4, none⟩ = some (.slice pb o.b.length cb)) := fun w' ht => by
            obtain ⟨-, -, -, -, hk4⟩ := vopA_cell (o := o) (pb := pb) (cb := cb) (by rw [← HRA.out]; exact ht.keep HRD.out (fun e => by have h1 := HRD.out; rw [e, HKD.out.xrow] at h1; injection h1 with e1; injection e1 with _ e2; exact absurd e2 (by decide)))
            exact hk4
          have hkc : Hid (∀ w', Turns (fun k => k = xb) wD w' → (convert 22 9 (.slice pb o.b.length cb)).run Tryz.prog w' = .ok (.string (S o.b)) w') := fun w' ht =>
            Cut.bconv (HOB.out w' (HKD.out.low.trans (ht.below HKD.out.low.size (fun i hi => by subst hi; exact HKD.out.xlow))))
          refine wp_region_tree (Turns (fun k => k = xb) wD) (.take 1 (.take 2 (.take 4 (.take 5 (.take 6 (.two 0 7 (.two 3 7 (.one 7 (.one 8 (.take 9 (.one 10 .nil)))) (.one 3 (.one 8 (.take 9 (.one 10 .nil))))) (.one 0 (.one 3 (.one 8 (.take 9 (.one 10 .nil))))))))))) (by kernel_rfl) (by kernel_rfl) ((Turns.refl (fun k => k = xb) wD).drew) ?_
          have hyd : Below wD.heap.size wD wD.drew := below_drew1 _ _
          have HKX := Lib.hid (HKD.out.below hyd HKD.out.low.size)
          have HRX := Lib.hid (Below.keepOld hyd HRD.out)
          have HTX : Hid (Turns (fun k => k = xb) wD wD.drew) := Turns.of_below hyd
          clear hyd HKD HRD
          generalize wD.drew = wd at *
          have HSB : Hid (w2.heap.size ≤ wd.heap.size) := HKX.out.low.size
          have hSL : Hid (∀ w', Below wd.heap.size wd w' → Ws w' p9 v.after.length c9 v.after) := fun w' hb => HKX.out.nws.below hb
          repeat (first
            | (apply tree_take; (· rfl); (· rfl); (· (intro w' hb'; go_simp; try with_reducible rfl)); try simp only [Act.put, List.setIfInBounds_toArray, List.set_cons_zero, List.set_cons_succ])
            | (apply tree_take; (· rfl); (· rfl); (· (intro w' hb'; have hk' := (hkn.out) w' hb'; go_simp; try with_reducible rfl)); try simp only [Act.put, List.setIfInBounds_toArray, List.set_cons_zero, List.set_cons_succ])
            | (apply tree_take; (· rfl); (· rfl); (· (intro w' hb'; have hk' := (hko.out) w' hb'; go_simp; try with_reducible rfl)); try simp only [Act.put, List.setIfInBounds_toArray, List.set_cons_zero, List.set_cons_succ])
            | (apply tree_take; (· rfl); (· rfl); (· (intro w' hb'; have hk' := (hkc.out) w' hb'; go_simp; try with_reducible rfl)); try simp only [Act.put, List.setIfInBounds_toArray, List.set_cons_zero, List.set_cons_succ]))
          clear hkn hko hkc
          have hb0 : Below wd.heap.size wd (wd.alloc (.cells #[] 9)) := Below.allocs _ _
          refine tree_two ?_ ?_
          · refine tree_one rfl (by rfl) (fun K hK => ?_)
            go_simp
            refine Shut.out hK _ _ (HTX.out.trans (Turns.of_below (S := fun k => k = xb) hb0) (fun _ _ h => h)) ?_
            clear hK K
            try simp only [Act.put, List.setIfInBounds_toArray, List.set_cons_zero, List.set_cons_succ]
            have o1 : (wd.alloc (.cells #[] 9)).ownsRow wd.heap.size 9 1 (.slice (some ⟨wd.heap.size, 0, none⟩) 0 0) 0 [] := own_made0 wd _ _ _ _ rfl (Nat.le_refl _)
            have hz1 : wd.heap.size ≤ (wd.alloc (.cells #[] 9)).heap.size := hb0.size
            generalize wd.alloc (.cells #[] 9) = wa at *
            refine tree_two ?_ ?_
            · refine tree_one rfl (by rfl) (fun K hK => oper_of_list rfl ?_)
              refine wpList_append_nx rfl _ _ 49 rfl (base := wd.heap.size) Tryz.underlying49 infoStr rfl (by omega) rfl o1 rfl (hSL.out _ hb0) (strV_one _) ⟨by have := HAL.out; omega, by have := HAL.out; omega⟩ hz1 ?_
              intro p2 c2 w5 o2 hg2 hnx2 _
              rw [Nat.zero_add v.after.length] at *
              have hb2 : Below wd.heap.size wd w5 := hb0.grown hg2 hz1 (fun i hi => (o1.lt i hi).1)
              refine only_end (Shut.out hK _ _ (HTX.out.trans (Turns.of_below (S := fun k => k = xb) hb2) (fun _ _ h => h)) ?_)
              clear hK K
              try simp only [Act.put, List.setIfInBounds_toArray, List.set_cons_zero, List.set_cons_succ]
              have hz2 : wd.heap.size ≤ w5.heap.size := hb2.size
              rw [List.nil_append] at o2
              refine tree_one rfl (by rfl) (fun K hK => oper_of_list rfl ?_)
              refine wpList_buildStr rfl _ rfl o.b rfl ?_
              have hb6 := hb2.alloc hz2 (.cells #[.string (S o.b)] 9)
              have o6 := own_alloc o2 (.cells #[.string (S o.b)] 9)
              have r6 := heap_alloc_last w5 (.cells #[.string (S o.b)] 9)
              have hz6 : wd.heap.size ≤ (w5.alloc (.cells #[.string (S o.b)] 9)).heap.size := hb6.size
              refine only_end (Shut.out hK _ _ (HTX.out.trans (Turns.of_below (S := fun k => k = xb) hb6) (fun _ _ h => h)) ?_)
              clear hK K
              try simp only [Act.put, List.setIfInBounds_toArray, List.set_cons_zero, List.set_cons_succ]
              generalize w5.alloc (.cells #[.string (S o.b)] 9) = w6 at *
              have hx6 : Ws w6 (some ⟨w5.heap.size, 0, none⟩) 1 1 [o.b] := Ws.row (ls := [o.b]) r6 rfl (by show 1 ≤ _; omega)
              refine tree_one rfl (by rfl) (fun K hK => oper_of_list rfl ?_)
              refine wpList_append_nx rfl _ _ 49 rfl (base := wd.heap.size) Tryz.underlying49 infoStr rfl (by omega) rfl o6 rfl hx6 (strV_one _) ⟨by have := HAL.out; omega, by have := HAL.out; omega⟩ hz6 ?_
              intro pf cf w9 o9 hg9 hnx9 _
              have o9 : w9.ownsRow wd.heap.size 9 1 (.slice pf (v.after.length + 1) cf) (v.after.length + 1) (strV (v.after ++ [o.b])) := by rw [strV_app]; exact o9
              have hb9 : Below wd.heap.size wd w9 := hb6.grown hg9 hz6 (fun i hi => (o6.lt i hi).1)
              refine only_end (Shut.out hK _ _ (HTX.out.trans (Turns.of_below (S := fun k => k = xb) hb9) (fun _ _ h => h)) ?_)
              clear hK K
              try simp only [Act.put, List.setIfInBounds_toArray, List.set_cons_zero, List.set_cons_succ]
              skip
              -- w9: the list with one more; o9 : it is owned; hb9 : Below wd.heap.size wd w9; ops 9 and 10 left
              have hkl9 := HKX.out.below hb9 HKX.out.low.size
              have hx9 := hkl9.xrow
              have hcx : w9.cell? ⟨xb, 2, none⟩ = some (.slice p9 v.after.length c9) := by rw [cell_of_row _ _ _ _ _ _ hx9]; rfl
              have hfx : w9.frozen? ⟨xb, 2, none⟩ = false := frozen_of_row _ _ _ _ _ hx9
              have HKE := Lib.hid (hkl9.setC (x := o.b) (p' := pf) (c' := cf) (own_down o9 HKX.out.low.size))
              have HRE := Lib.hid (Below.keepOld (w' := w9) hb9 HRX.out)
              have HRF : Hid ((w9.setCell ⟨xb, 2, none⟩ (.slice pf (v.after.length + 1) cf)).heap[og]? = some (.cells A 54 (0, 0))) := by
                have ht : Turns (fun k => k = xb) w9 (w9.setCell ⟨xb, 2, none⟩ (.slice pf (v.after.length + 1) cf)) := (Turns.refl (fun k => k = xb) w9).setCell (p := ⟨xb, 2, none⟩) (fun _ => rfl) _
                exact ht.keep HRE.out (fun e => by have h1 := HRE.out; rw [e, hx9] at h1; injection h1 with e1; injection e1 with _ e2; exact absurd e2 (by decide))
              have htf : Turns (fun k => k = xb) wD (w9.setCell ⟨xb, 2, none⟩ (.slice pf (v.after.length + 1) cf)) := (HTX.out.trans (Turns.of_below (S := fun k => k = xb) hb9) (fun _ _ h => h)).setCell (p := ⟨xb, 2, none⟩) (fun _ => rfl) _
              (apply tree_take; (· rfl); (· rfl); (· (intro w' hb'; go_simp; try with_reducible rfl)); try simp only [Act.put, List.setIfInBounds_toArray, List.set_cons_zero, List.set_cons_succ])
              refine tree_one rfl (by rfl) (fun K hK => ?_)
              go_simp
              refine Shut.out hK _ _ htf ?_
              clear hK K hkl9 hx9 hcx hfx htf HRE HKX HRX HTX
              try simp only [Act.put, List.setIfInBounds_toArray, List.set_cons_zero, List.set_cons_succ]
              refine tree_nil ?_
              generalize w9.setCell ⟨xb, 2, none⟩ (.slice pf (v.after.length + 1) cf) = wE at *
              obtain ⟨-, -, -, -, hk4⟩ := vopA_cell (o := o) (pb := pb) (cb := cb) (by rw [← HRA.out]; exact HRF.out)
              have hcm := vput_any wE HKE.out.xv pb cb o.b (fun w' hk => HOB.out w' (HKE.out.low.trans (hk.below HKE.out.low.size))) (by have := HN1.out; omega) (by have := HAL.out; omega) (by have := HSTK.out 0; omega)
              unfold VPutP at hcm
              have HCM := Lib.hid hcm
              have HRM := Lib.hid HKE.out.room
              clear hcm
              rcases live_put (r := o.b) HLU0.out HRM.out (by have := HN1.out; omega) (by have := HLB.out; omega) with ⟨_, hv, hl⟩ | ⟨hv, hdn2, _, hle⟩
              · rw [hv] at HCM
                have HLU := Lib.hid hl
                have HRM2 : Hid ((vputD D v o.b).room = 65536) := (vputD_room _ _ _).trans HRM.out
                clear hv hl
                generalize vputD D v o.b = D2 at *
                go_wp2_with fail
                refine HCM.out.mono ?_
                rintro e wF ⟨rfl, hx, hkv⟩
                have HKY := Lib.hid (HKE.out.kv hkv hx HRM2.out HKE.out.low.size)
                clear hx hkv HCM HKE HRF hk4
                skip
                -- region 22 on: world wF, HKY : KL .. D2 s2 (pushV v o.b) a b ..; HLU : Live D2 s2 (pushV v o.b) NN; b = (pushV v o.b)
                have HDU : Hid (D2.down = false) := HLU.out.1
                have HDW := Lib.hid (xdownS wF HKY.out.xv.dx)
                rw [HDU.out] at HDW
                go_wp2_with fail
                refine HDW.out.mono ?_
                rintro e w99 ⟨rfl, rfl⟩
                have HXR := Lib.hid HKY.out.xrow
                have HNR := Lib.hid HKY.out.nrow
                have HKZ := Lib.hid (HKY.out.setN HKY.out.xown)
                clear HDW HDU HKY
                go_wp2_with (first
                  | ((with_reducible refine wpAt 94 ?_); refine wpList_load_row rfl 51 _ rfl xb rfl 51 _ (0, 0) _ HXR.out Tryz.underlying51 rfl (infoSe _ rfl) ?_)
                  | refine wpList_store_row rfl 51 _ _ rfl nb _ rfl rfl 51 _ HNR.out (infoSe _ rfl) rfl (seA_one _ _ _ _) ?_)
                try simp only [Act.put, List.setIfInBounds_toArray, List.set_cons_zero, List.set_cons_succ]
                go_roundw
                case rel => exact ⟨i + 1, _, _, _, _, _, _, _, _, _, HIL.out, by go_num, HKZ.out, by have h1 := HTS.out; have h2 := HLU.out.leaves (P := fun v' => v' = (pushV v o.b) ∨ v' = (pushV v o.b)) (.inl rfl); rw [HNN.out] at h2; exact h2, fun _ => ⟨by have h2 := HLU.out; rw [HNN.out] at h2; exact h2, rfl, rfl⟩⟩
                case measure => have := HIL.out; simp [intOf]; omega
              · have HLU := Lib.hid hle
                have HDU := Lib.hid hdn2
                have HRM2 : Hid ((vputD D v o.b).room = 65536) := (vputD_room _ _ _).trans HRM.out
                rw [hv] at HCM
                clear hv hle hdn2
                generalize vputD D v o.b = D2 at *
                go_wp2_with fail
                refine HCM.out.mono ?_
                rintro e wF ⟨rfl, hx, hkv⟩
                have HKY := Lib.hid (HKE.out.kv hkv hx HRM2.out HKE.out.low.size)
                clear hx hkv HCM HKE HRF hk4
                skip
                -- region 22 on: world wF, HKY : KL .. D2 s2 V2 a b ..; HDU : D2.down; HLU : Leaves D2 (a or b) NN
                have HDW := Lib.hid (xdownS wF HKY.out.xv.dx)
                rw [HDU.out] at HDW
                go_wp2_with fail
                refine HDW.out.mono ?_
                rintro e w99 ⟨rfl, rfl⟩
                clear HDW
                go_wp2_with fail
                go_roundw
                case rel => exact ⟨i + 1, _, _, _, _, _, _, _, _, _, HIL.out, by go_num, HKY.out, by have h2 := HLU.out; rw [HNN.out] at h2; exact h2, fun h => by rw [HDU.out] at h; cases h⟩
                case measure => have := HIL.out; simp [intOf]; omega
            · refine tree_one rfl (by rfl) (fun K hK => oper_of_list rfl ?_)
              refine wpList_buildStr rfl _ rfl o.b rfl ?_
              have hb2 := hb0.alloc hz1 (.cells #[.string (S o.b)] 9)
              have o2 := own_alloc o1 (.cells #[.string (S o.b)] 9)
              have r2 := heap_alloc_last wa (.cells #[.string (S o.b)] 9)
              have hz2 : wd.heap.size ≤ (wa.alloc (.cells #[.string (S o.b)] 9)).heap.size := hb2.size
              have hne : ¬ wa.heap.size = wd.heap.size := fun e => by have := (o1.lt wd.heap.size rfl).2; omega
              refine only_end (Shut.out hK _ _ (HTX.out.trans (Turns.of_below (S := fun k => k = xb) hb2) (fun _ _ h => h)) ?_)
              clear hK K
              try simp only [Act.put, List.setIfInBounds_toArray, List.set_cons_zero, List.set_cons_succ]
              generalize hwa : wa.heap.size = ba at *
              generalize wa.alloc (.cells #[.string (S o.b)] 9) = wc at *
              refine tree_one rfl (by rfl) (fun K hK => oper_of_list rfl ?_)
              refine wpList_append_nx rfl _ _ 49 rfl (base := wd.heap.size) Tryz.underlying49 infoStr rfl (by omega) rfl o2 rfl (hSL.out _ hb2) (strV_one _) ⟨by have := HAL.out; omega, by have := HAL.out; omega⟩ hz2 ?_
              intro p2 c2 w6 o6 hg2 hnx2 _
              rw [Nat.zero_add v.after.length] at *
              rw [List.nil_append] at o6
              have hb6 : Below wd.heap.size wd w6 := hb2.grown hg2 hz2 (fun i hi => (o2.lt i hi).1)
              have r6 := (Turns.grown (S := fun k => k = wd.heap.size) hg2 (fun k hk => (Option.some.inj hk).symm)).keep r2 hne
              have hz6 : wd.heap.size ≤ w6.heap.size := hb6.size
              refine only_end (Shut.out hK _ _ (HTX.out.trans (Turns.of_below (S := fun k => k = xb) hb6) (fun _ _ h => h)) ?_)
              clear hK K
              try simp only [Act.put, List.setIfInBounds_toArray, List.set_cons_zero, List.set_cons_succ]
              have hx6 : Ws w6 (some ⟨ba, 0, none⟩) 1 1 [o.b] := Ws.row (ls := [o.b]) r6 rfl (by show 1 ≤ _; omega)
              refine tree_one rfl (by rfl) (fun K hK => oper_of_list rfl ?_)
              refine wpList_append_nx rfl _ _ 49 rfl (base := wd.heap.size) Tryz.underlying49 infoStr rfl (by omega) rfl o6 rfl hx6 (strV_one _) ⟨by have := HAL.out; omega, by have := HAL.out; omega⟩ hz6 ?_
              intro pf cf w9 o9 hg9 hnx9 _
              have o9 : w9.ownsRow wd.heap.size 9 1 (.slice pf (v.after.length + 1) cf) (v.after.length + 1) (strV (v.after ++ [o.b])) := by rw [strV_app]; exact o9
              have hb9 : Below wd.heap.size wd w9 := hb6.grown hg9 hz6 (fun i hi => (o6.lt i hi).1)
              refine only_end (Shut.out hK _ _ (HTX.out.trans (Turns.of_below (S := fun k => k = xb) hb9) (fun _ _ h => h)) ?_)
              clear hK K
              try simp only [Act.put, List.setIfInBounds_toArray, List.set_cons_zero, List.set_cons_succ]
              skip
              -- w9: the list with one more; o9 : it is owned; hb9 : Below wd.heap.size wd w9; ops 9 and 10 left
              have hkl9 := HKX.out.below hb9 HKX.out.low.size
              have hx9 := hkl9.xrow
              have hcx : w9.cell? ⟨xb, 2, none⟩ = some (.slice p9 v.after.length c9) := by rw [cell_of_row _ _ _ _ _ _ hx9]; rfl
              have hfx : w9.frozen? ⟨xb, 2, none⟩ = false := frozen_of_row _ _ _ _ _ hx9
              have HKE := Lib.hid (hkl9.setC (x := o.b) (p' := pf) (c' := cf) (own_down o9 HKX.out.low.size))
              have HRE := Lib.hid (Below.keepOld (w' := w9) hb9 HRX.out)
              have HRF : Hid ((w9.setCell ⟨xb, 2, none⟩ (.slice pf (v.after.length + 1) cf)).heap[og]? = some (.cells A 54 (0, 0))) := by
                have ht : Turns (fun k => k = xb) w9 (w9.setCell ⟨xb, 2, none⟩ (.slice pf (v.after.length + 1) cf)) := (Turns.refl (fun k => k = xb) w9).setCell (p := ⟨xb, 2, none⟩) (fun _ => rfl) _
                exact ht.keep HRE.out (fun e => by have h1 := HRE.out; rw [e, hx9] at h1; injection h1 with e1; injection e1 with _ e2; exact absurd e2 (by decide))
              have htf : Turns (fun k => k = xb) wD (w9.setCell ⟨xb, 2, none⟩ (.slice pf (v.after.length + 1) cf)) := (HTX.out.trans (Turns.of_below (S := fun k => k = xb) hb9) (fun _ _ h => h)).setCell (p := ⟨xb, 2, none⟩) (fun _ => rfl) _
              (apply tree_take; (· rfl); (· rfl); (· (intro w' hb'; go_simp; try with_reducible rfl)); try simp only [Act.put, List.setIfInBounds_toArray, List.set_cons_zero, List.set_cons_succ])
              refine tree_one rfl (by rfl) (fun K hK => ?_)
              go_simp
              refine Shut.out hK _ _ htf ?_
              clear hK K hkl9 hx9 hcx hfx htf HRE HKX HRX HTX
              try simp only [Act.put, List.setIfInBounds_toArray, List.set_cons_zero, List.set_cons_succ]
              refine tree_nil ?_
              generalize w9.setCell ⟨xb, 2, none⟩ (.slice pf (v.after.length + 1) cf) = wE at *
              obtain ⟨-, -, -, -, hk4⟩ := vopA_cell (o := o) (pb := pb) (cb := cb) (by rw [← HRA.out]; exact HRF.out)
              have hcm := vput_any wE HKE.out.xv pb cb o.b (fun w' hk => HOB.out w' (HKE.out.low.trans (hk.below HKE.out.low.size))) (by have := HN1.out; omega) (by have := HAL.out; omega) (by have := HSTK.out 0; omega)
              unfold VPutP at hcm
              have HCM := Lib.hid hcm
              have HRM := Lib.hid HKE.out.room
              clear hcm
              rcases live_put (r := o.b) HLU0.out HRM.out (by have := HN1.out; omega) (by have := HLB.out; omega) with ⟨_, hv, hl⟩ | ⟨hv, hdn2, _, hle⟩
              · rw [hv] at HCM
                have HLU := Lib.hid hl
                have HRM2 : Hid ((vputD D v o.b).room = 65536) := (vputD_room _ _ _).trans HRM.out
                clear hv hl
                generalize vputD D v o.b = D2 at *
                go_wp2_with fail
                refine HCM.out.mono ?_
                rintro e wF ⟨rfl, hx, hkv⟩
                have HKY := Lib.hid (HKE.out.kv hkv hx HRM2.out HKE.out.low.size)
                clear hx hkv HCM HKE HRF hk4
                skip
                -- region 22 on: world wF, HKY : KL .. D2 s2 (pushV v o.b) a b ..; HLU : Live D2 s2 (pushV v o.b) NN; b = (pushV v o.b)
                have HDU : Hid (D2.down = false) := HLU.out.1
                have HDW := Lib.hid (xdownS wF HKY.out.xv.dx)
                rw [HDU.out] at HDW
                go_wp2_with fail
                refine HDW.out.mono ?_
                rintro e w99 ⟨rfl, rfl⟩
                have HXR := Lib.hid HKY.out.xrow
                have HNR := Lib.hid HKY.out.nrow
                have HKZ := Lib.hid (HKY.out.setN HKY.out.xown)
                clear HDW HDU HKY
                go_wp2_with (first
                  | ((with_reducible refine wpAt 94 ?_); refine wpList_load_row rfl 51 _ rfl xb rfl 51 _ (0, 0) _ HXR.out Tryz.underlying51 rfl (infoSe _ rfl) ?_)
                  | refine wpList_store_row rfl 51 _ _ rfl nb _ rfl rfl 51 _ HNR.out (infoSe _ rfl) rfl (seA_one _ _ _ _) ?_)
                try simp only [Act.put, List.setIfInBounds_toArray, List.set_cons_zero, List.set_cons_succ]
                go_roundw
                case rel => exact ⟨i + 1, _, _, _, _, _, _, _, _, _, HIL.out, by go_num, HKZ.out, by have h1 := HTS.out; have h2 := HLU.out.leaves (P := fun v' => v' = (pushV v o.b) ∨ v' = (pushV v o.b)) (.inl rfl); rw [HNN.out] at h2; exact h2, fun _ => ⟨by have h2 := HLU.out; rw [HNN.out] at h2; exact h2, rfl, rfl⟩⟩
                case measure => have := HIL.out; simp [intOf]; omega
              · have HLU := Lib.hid hle
                have HDU := Lib.hid hdn2
                have HRM2 : Hid ((vputD D v o.b).room = 65536) := (vputD_room _ _ _).trans HRM.out
                rw [hv] at HCM
                clear hv hle hdn2
                generalize vputD D v o.b = D2 at *
                go_wp2_with fail
                refine HCM.out.mono ?_
                rintro e wF ⟨rfl, hx, hkv⟩
                have HKY := Lib.hid (HKE.out.kv hkv hx HRM2.out HKE.out.low.size)
                clear hx hkv HCM HKE HRF hk4
                skip
                -- region 22 on: world wF, HKY : KL .. D2 s2 V2 a b ..; HDU : D2.down; HLU : Leaves D2 (a or b) NN
                have HDW := Lib.hid (xdownS wF HKY.out.xv.dx)
                rw [HDU.out] at HDW
                go_wp2_with fail
                refine HDW.out.mono ?_
                rintro e w99 ⟨rfl, rfl⟩
                clear HDW
                go_wp2_with fail
                go_roundw
                case rel => exact ⟨i + 1, _, _, _, _, _, _, _, _, _, HIL.out, by go_num, HKY.out, by have h2 := HLU.out; rw [HNN.out] at h2; exact h2, fun h => by rw [HDU.out] at h; cases h⟩
                case measure => have := HIL.out; simp [intOf]; omega
          · refine tree_one rfl (by rfl) (fun K hK => oper_of_list rfl ?_)
            refine wpList_buildStr rfl _ rfl o.b rfl ?_
            have hb1 := Below.allocs wd (.cells #[.string (S o.b)] 9)
            have r1 := heap_alloc_last wd (.cells #[.string (S o.b)] 9)
            have hz1 : wd.heap.size ≤ (wd.alloc (.cells #[.string (S o.b)] 9)).heap.size := hb1.size
            refine only_end (Shut.out hK _ _ (HTX.out.trans (Turns.of_below (S := fun k => k = xb) hb1) (fun _ _ h => h)) ?_)
            clear hK K
            try simp only [Act.put, List.setIfInBounds_toArray, List.set_cons_zero, List.set_cons_succ]
            have hlt1 := (Array.getElem?_eq_some_iff.1 r1).1
            generalize wd.alloc (.cells #[.string (S o.b)] 9) = wa at *
            refine tree_one rfl (by rfl) (fun K hK => ?_)
            go_simp
            have hb2 := hb1.alloc hz1 (.cells #[] 9)
            have o2 : (wa.alloc (.cells #[] 9)).ownsRow wd.heap.size 9 1 (.slice (some ⟨wa.heap.size, 0, none⟩) 0 0) 0 [] := own_made0 wa _ _ _ _ rfl hz1
            have r2 := Below.keepOld (Below.allocs wa (.cells #[] 9)) r1
            have hz2 : wd.heap.size ≤ (wa.alloc (.cells #[] 9)).heap.size := hb2.size
            have hne : ¬ wd.heap.size = wa.heap.size := by omega
            refine Shut.out hK _ _ (HTX.out.trans (Turns.of_below (S := fun k => k = xb) hb2) (fun _ _ h => h)) ?_
            clear hK K
            try simp only [Act.put, List.setIfInBounds_toArray, List.set_cons_zero, List.set_cons_succ]
            generalize wa.alloc (.cells #[] 9) = wc at *
            refine tree_one rfl (by rfl) (fun K hK => oper_of_list rfl ?_)
            refine wpList_append_nx rfl _ _ 49 rfl (base := wd.heap.size) Tryz.underlying49 infoStr rfl (by omega) rfl o2 rfl (hSL.out _ hb2) (strV_one _) ⟨by have := HAL.out; omega, by have := HAL.out; omega⟩ hz2 ?_
            intro p2 c2 w6 o6 hg2 hnx2 _
            rw [Nat.zero_add v.after.length] at *
            rw [List.nil_append] at o6
            have hb6 : Below wd.heap.size wd w6 := hb2.grown hg2 hz2 (fun i hi => (o2.lt i hi).1)
            have r6 := (Turns.grown (S := fun k => k = wa.heap.size) hg2 (fun k hk => (Option.some.inj hk).symm)).keep r2 hne
            have hz6 : wd.heap.size ≤ w6.heap.size := hb6.size
            refine only_end (Shut.out hK _ _ (HTX.out.trans (Turns.of_below (S := fun k => k = xb) hb6) (fun _ _ h => h)) ?_)
            clear hK K
            try simp only [Act.put, List.setIfInBounds_toArray, List.set_cons_zero, List.set_cons_succ]
            have hx6 : Ws w6 (some ⟨wd.heap.size, 0, none⟩) 1 1 [o.b] := Ws.row (ls := [o.b]) r6 rfl (by show 1 ≤ _; omega)
            refine tree_one rfl (by rfl) (fun K hK => oper_of_list rfl ?_)
            refine wpList_append_nx rfl _ _ 49 rfl (base := wd.heap.size) Tryz.underlying49 infoStr rfl (by omega) rfl o6 rfl hx6 (strV_one _) ⟨by have := HAL.out; omega, by have := HAL.out; omega⟩ hz6 ?_
            intro pf cf w9 o9 hg9 hnx9 _
            have o9 : w9.ownsRow wd.heap.size 9 1 (.slice pf (v.after.length + 1) cf) (v.after.length + 1) (strV (v.after ++ [o.b])) := by rw [strV_app]; exact o9
            have hb9 : Below wd.heap.size wd w9 := hb6.grown hg9 hz6 (fun i hi => (o6.lt i hi).1)
            refine only_end (Shut.out hK _ _ (HTX.out.trans (Turns.of_below (S := fun k => k = xb) hb9) (fun _ _ h => h)) ?_)
            clear hK K
            try simp only [Act.put, List.setIfInBounds_toArray, List.set_cons_zero, List.set_cons_succ]
            skip
            -- w9: the list with one more; o9 : it is owned; hb9 : Below wd.heap.size wd w9; ops 9 and 10 left
            have hkl9 := HKX.out.below hb9 HKX.out.low.size
            have hx9 := hkl9.xrow
            have hcx : w9.cell? ⟨xb, 2, none⟩ = some (.slice p9 v.after.length c9) := by rw [cell_of_row _ _ _ _ _ _ hx9]; rfl
            have hfx : w9.frozen? ⟨xb, 2, none⟩ = false := frozen_of_row _ _ _ _ _ hx9
            have HKE := Lib.hid (hkl9.setC (x := o.b) (p' := pf) (c' := cf) (own_down o9 HKX.out.low.size))
            have HRE := Lib.hid (Below.keepOld (w' := w9) hb9 HRX.out)
            have HRF : Hid ((w9.setCell ⟨xb, 2, none⟩ (.slice pf (v.after.length + 1) cf)).heap[og]? = some (.cells A 54 (0, 0))) := by
              have ht : Turns (fun k => k = xb) w9 (w9.setCell ⟨xb, 2, none⟩ (.slice pf (v.after.length + 1) cf)) := (Turns.refl (fun k => k = xb) w9).setCell (p := ⟨xb, 2, none⟩) (fun _ => rfl) _
              exact ht.keep HRE.out (fun e => by have h1 := HRE.out; rw [e, hx9] at h1; injection h1 with e1; injection e1 with _ e2; exact absurd e2 (by decide))
            have htf : Turns (fun k => k = xb) wD (w9.setCell ⟨xb, 2, none⟩ (.slice pf (v.after.length + 1) cf)) := (HTX.out.trans (Turns.of_below (S := fun k => k = xb) hb9) (fun _ _ h => h)).setCell (p := ⟨xb, 2, none⟩) (fun _ => rfl) _
            (apply tree_take; (· rfl); (· rfl); (· (intro w' hb'; go_simp; try with_reducible rfl)); try simp only [Act.put, List.setIfInBounds_toArray, List.set_cons_zero, List.set_cons_succ])
            refine tree_one rfl (by rfl) (fun K hK => ?_)
            go_simp
            refine Shut.out hK _ _ htf ?_
            clear hK K hkl9 hx9 hcx hfx htf HRE HKX HRX HTX
            try simp only [Act.put, List.setIfInBounds_toArray, List.set_cons_zero, List.set_cons_succ]
            refine tree_nil ?_
            generalize w9.setCell ⟨xb, 2, none⟩ (.slice pf (v.after.length + 1) cf) = wE at *
            obtain ⟨-, -, -, -, hk4⟩ := vopA_cell (o := o) (pb := pb) (cb := cb) (by rw [← HRA.out]; exact HRF.out)
            have hcm := vput_any wE HKE.out.xv pb cb o.b (fun w' hk => HOB.out w' (HKE.out.low.trans (hk.below HKE.out.low.size))) (by have := HN1.out; omega) (by have := HAL.out; omega) (by have := HSTK.out 0; omega)
            unfold VPutP at hcm
            have HCM := Lib.hid hcm
            have HRM := Lib.hid HKE.out.room
            clear hcm
            rcases live_put (r := o.b) HLU0.out HRM.out (by have := HN1.out; omega) (by have := HLB.out; omega) with ⟨_, hv, hl⟩ | ⟨hv, hdn2, _, hle⟩
            · rw [hv] at HCM
              have HLU := Lib.hid hl
              have HRM2 : Hid ((vputD D v o.b).room = 65536) := (vputD_room _ _ _).trans HRM.out
              clear hv hl
              generalize vputD D v o.b = D2 at *
              go_wp2_with fail
              refine HCM.out.mono ?_
              rintro e wF ⟨rfl, hx, hkv⟩
              have HKY := Lib.hid (HKE.out.kv hkv hx HRM2.out HKE.out.low.size)
              clear hx hkv HCM HKE HRF hk4
              skip
              -- region 22 on: world wF, HKY : KL .. D2 s2 (pushV v o.b) a b ..; HLU : Live D2 s2 (pushV v o.b) NN; b = (pushV v o.b)
              have HDU : Hid (D2.down = false) := HLU.out.1
              have HDW := Lib.hid (xdownS wF HKY.out.xv.dx)
              rw [HDU.out] at HDW
              go_wp2_with fail
              refine HDW.out.mono ?_
              rintro e w99 ⟨rfl, rfl⟩
              have HXR := Lib.hid HKY.out.xrow
              have HNR := Lib.hid HKY.out.nrow
              have HKZ := Lib.hid (HKY.out.setN HKY.out.xown)
              clear HDW HDU HKY
              go_wp2_with (first
                | ((with_reducible refine wpAt 94 ?_); refine wpList_load_row rfl 51 _ rfl xb rfl 51 _ (0, 0) _ HXR.out Tryz.underlying51 rfl (infoSe _ rfl) ?_)
                | refine wpList_store_row rfl 51 _ _ rfl nb _ rfl rfl 51 _ HNR.out (infoSe _ rfl) rfl (seA_one _ _ _ _) ?_)
              try simp only [Act.put, List.setIfInBounds_toArray, List.set_cons_zero, List.set_cons_succ]
              go_roundw
              case rel => exact ⟨i + 1, _, _, _, _, _, _, _, _, _, HIL.out, by go_num, HKZ.out, by have h1 := HTS.out; have h2 := HLU.out.leaves (P := fun v' => v' = (pushV v o.b) ∨ v' = (pushV v o.b)) (.inl rfl); rw [HNN.out] at h2; exact h2, fun _ => ⟨by have h2 := HLU.out; rw [HNN.out] at h2; exact h2, rfl, rfl⟩⟩
              case measure => have := HIL.out; simp [intOf]; omega
            · have HLU := Lib.hid hle
              have HDU := Lib.hid hdn2
              have HRM2 : Hid ((vputD D v o.b).room = 65536) := (vputD_room _ _ _).trans HRM.out
              rw [hv] at HCM
              clear hv hle hdn2
              generalize vputD D v o.b = D2 at *
              go_wp2_with fail
              refine HCM.out.mono ?_
              rintro e wF ⟨rfl, hx, hkv⟩
              have HKY := Lib.hid (HKE.out.kv hkv hx HRM2.out HKE.out.low.size)
              clear hx hkv HCM HKE HRF hk4
              skip
              -- region 22 on: world wF, HKY : KL .. D2 s2 V2 a b ..; HDU : D2.down; HLU : Leaves D2 (a or b) NN
              have HDW := Lib.hid (xdownS wF HKY.out.xv.dx)
              rw [HDU.out] at HDW
              go_wp2_with fail
              refine HDW.out.mono ?_
              rintro e w99 ⟨rfl, rfl⟩
              clear HDW
              go_wp2_with fail
              go_roundw
              case rel => exact ⟨i + 1, _, _, _, _, _, _, _, _, _, HIL.out, by go_num, HKY.out, by have h2 := HLU.out; rw [HNN.out] at h2; exact h2, fun h => by rw [HDU.out] at h; cases h⟩
              case measure => have := HIL.out; simp [intOf]; omega
    · have hd : decide ((i : Int) < (os.length : Int)) = false := decide_eq_false (by omega)
      have hd2 : decide (i < os.length) = false := decide_eq_false hlt
      have HNT : Hid (i + bsum (os.take i) ≤ 1000) := by show _ ≤ _; have h1 := HTOT.out; have h2 := bsum_take_le os i; omega
      clear hlt
      skip
      -- world wr; HKL : KL .. D s v a b pn cn px cx w2 wr; HLV : Leaves D (a or b) (i + bsum (os.take i)); HNT : (i + bsum (os.take i)) ≤ 1000
      have HQ0 := Lib.hid HKL.out.kq
      have hsl1 : ∀ y, (Instr.sliceAt 44 (.pointer (some ⟨w.heap.size + 1, 0, none⟩)) none (some (.int .i64 3)) none).run Tryz.prog y = .ok (.slice (some ⟨w.heap.size + 1, 0, none⟩) 3 6) y := fun y => by kernel_rfl
      have hsl2 : ∀ y, (Instr.sliceAt 44 (.pointer (some ⟨w.heap.size + 1, 0, none⟩)) (some (.int .i64 3)) none none).run Tryz.prog y = .ok (.slice (some ⟨w.heap.size + 1, 3, none⟩) 3 3) y := fun y => by kernel_rfl
      have HSL1 := Lib.hid hsl1
      have HSL2 := Lib.hid hsl2
      have hrw := Below.keepOld HKL.out.low HQ2.out
      have hn1 : Ns wr (some ⟨w.heap.size + 1, 0, none⟩) [u0, u1, u2].length 6 [u0, u1, u2] := ns_sub hrw (fun j u hj => by
        match j, hj with
        | 0, hj => exact hj
        | 1, hj => exact hj
        | 2, hj => exact hj
        | j + 3, hj => cases hj) (show (3 : Nat) ≤ 6 by decide) (by decide) (fun x hx => hun x (by
          simp only [List.mem_cons, List.not_mem_nil, or_false] at hx ⊢
          rcases hx with h | h | h <;> simp [h]))
      have hap : ∀ (y : World), Below w2.heap.size w2 y → ∀ k (a : Addr), some (⟨w.heap.size + 1, k, none⟩ : Addr) = some a → ¬ DTy w2.heap.size y a.block ∧ a.block < y.heap.size := fun y hy k a ha => by
        obtain rfl := Option.some.inj ha
        have h1 := HG2.out.2
        have h2 := hy.size
        refine ⟨fun hk => ?_, ?_⟩
        · have h3 : w2.heap.size ≤ w.heap.size + 1 := hk.1
          omega
        · show w.heap.size + 1 < _
          omega
      have HAP := Lib.hid hap
      have HC1 := Lib.hid (scrash wr HQ0.out.dx [u0, u1, u2] (some ⟨w.heap.size + 1, 0, none⟩) 6 hn1 (hap wr HKL.out.low 0))
      clear hrw hn1 hap hsl2
      go_upto_region 25 with fail
      go_wp2_with fail
      refine HC1.out.mono ?_
      rintro e wF ⟨rfl, hdF, hkF⟩
      have HQF := Lib.hid (HQ0.out.kt hkF hdF)
      obtain ⟨x, y1, y2, s1, v1, hvd, hpv⟩ := HLV.out [u0, u1, u2]
      have HPV := Lib.hid hpv
      have HVF := Lib.hid hvd
      have HRF : Hid ((crashD [u0, u1, u2] D).room = 65536) := HKL.out.room
      have HDF : Hid ((crashD [u0, u1, u2] D).down = false) := rfl
      have hf1 := cell_below (show w2.cell? ⟨w.heap.size, 1, none⟩ = some (.int .u8 (f1 : Int)) by rw [cell_of_row _ _ _ _ _ _ HQ1.out]; rfl) HQF.out.low
      clear hdF hkF hvd hpv HC1 HQ0 HLV HKL hsl1
      generalize crashD [u0, u1, u2] D = D1 at *
      have HAR := Lib.hid (sarm wF HQF.out.dx ((f1 : Int) % 4) (by omega))
      go_wp2_with fail
      refine HAR.out.mono ?_
      rintro e wG ⟨rfl, hdG, hkG⟩
      have HQG := Lib.hid (HQF.out.kt hkG hdG)
      have HVG : Hid (Vd ⟨D1.fs, D1.room, ((f1 : Int) % 4).toNat, D1.down⟩ x y1 y2 s1 v1 (i + bsum (os.take i))) := HVF.out.wF _ _
      have HRG : Hid ((⟨D1.fs, D1.room, ((f1 : Int) % 4).toNat, D1.down⟩ : DD).room = 65536) := HRF.out
      have HDG : Hid ((⟨D1.fs, D1.room, ((f1 : Int) % 4).toNat, D1.down⟩ : DD).down = false) := HDF.out
      clear hdG hkG hf1 HAR HQF HVF HRF HDF
      generalize (⟨D1.fs, D1.room, ((f1 : Int) % 4).toNat, D1.down⟩ : DD) = D2 at *
      obtain ⟨ho1, ho2, ho3⟩ := left_open HVG.out HDG.out HQG.out.dx.room.2.2
      have HO := Lib.hid (vopen_any wG (HE2.out.below HQG.out.low HE2.out.lt) HG2.out.1 HQG.out.dx HDG.out (by have := HVG.out.few 0; omega) (fun _ h => by rw [ho1] at h; cases h))
      have HRM : Hid ((opnD D2 0).room = 65536) := (opnD_room _ _).trans HRG.out
      have HV1 : Hid (v1.body.length ≤ 2000 ∧ v1.after.length ≤ 1000 ∧ ∀ r ∈ v1.after, r.length ≤ 2000) := ⟨HVG.out.bl, by have := HVG.out.al; have := HNT.out; omega, HVG.out.ax⟩
      go_wp2_with fail
      refine HO.out.mono ?_
      rintro e wH ⟨hkH, hsH⟩
      clear HO HVG HRG HDG
      rcases ho3 with ⟨hz, hlv, -⟩ | ⟨hz, -, hlv⟩
      · rcases hsH with ⟨hc, _⟩ | ⟨_, vv, rb2, sb2, vb2, hv, rfl, hsH⟩
        · exact absurd hz hc
        rw [ho1] at hv
        obtain rfl := Option.some.inj hv
        rw [ho2] at hsH
        have HXH := Lib.hid hsH
        have HQH := Lib.hid (HQG.out.kt hkH hsH.dx)
        have HLH := Lib.hid hlv
        clear hsH hlv hkH hz ho1 ho2 HQG
        have HV3 : Hid (∃ x4 z1 z2, Vd (crashD [u3, u4, u5] (opnD D2 0)) x4 z1 z2 s1 v1 (i + bsum (os.take i))) := by
          obtain ⟨_, x4, z1, z2, hv4, _⟩ := HLH.out
          exact ⟨x4, z1, z2, hv4.crash _⟩
        clear HLH
        generalize opnD D2 0 = D3 at *
        skip
        -- Crash(units[3:]...), and Open: world wH, HQH : KQ D3; HV3
        have hrw := Below.keepOld HQH.out.low HQ2.out
        have hn2 : Ns wH (some ⟨w.heap.size + 1, 3, none⟩) [u3, u4, u5].length 3 [u3, u4, u5] := ns_sub hrw (fun j u hj => by
          match j, hj with
          | 0, hj => exact hj
          | 1, hj => exact hj
          | 2, hj => exact hj
          | j + 3, hj => cases hj) (show (3 : Nat) ≤ 3 by decide) (by decide) (fun x hx => hun x (by
            simp only [List.mem_cons, List.not_mem_nil, or_false] at hx ⊢
            rcases hx with h | h | h <;> simp [h]))
        have HC2 := Lib.hid (scrash wH HQH.out.dx [u3, u4, u5] (some ⟨w.heap.size + 1, 3, none⟩) 3 hn2 (HAP.out wH HQH.out.low 3))
        clear hrw hn2
        have hsl2 := HSL2.out
        go_wp2_with fail
        refine HC2.out.mono ?_
        rintro e wI ⟨rfl, hdI, hkI⟩
        have HKI := Lib.hid hkI
        have HDI := Lib.hid hdI
        have HQI := Lib.hid (HQH.out.kt hkI hdI)
        have HRI : Hid ((crashD [u3, u4, u5] D3).room = 65536) := HRM.out
        have HFI : Hid ((crashD [u3, u4, u5] D3).down = false ∧ (crashD [u3, u4, u5] D3).fuse = 0) := ⟨rfl, rfl⟩
        clear hdI hkI HC2 HQH hsl2
        generalize crashD [u3, u4, u5] D3 = D4 at *
        obtain ⟨x4, z1, z2, hv4⟩ := HV3.out
        obtain ⟨ht1, ht2, ht3⟩ := left_open hv4 HFI.out.1 HQI.out.dx.room.2.2
        rcases ht3 with ⟨hz, hlv, hfz⟩ | ⟨_, hne, _⟩
        rotate_left
        · exact absurd HFI.out.2 hne
        have HO2 := Lib.hid (vopen_any wI (HE2.out.below HQI.out.low HE2.out.lt) HG2.out.1 HQI.out.dx HFI.out.1 (by have := hv4.few 0; omega) (fun _ h => by rw [ht1] at h; cases h))
        go_wp2_with fail
        refine HO2.out.mono ?_
        rintro e wJ ⟨hkJ, hsJ⟩
        rcases hsJ with ⟨hc, _⟩ | ⟨_, vv, rb3, sb3, vb3, hv, rfl, hsJ⟩
        · exact absurd hz hc
        rw [ht1] at hv
        obtain rfl := Option.some.inj hv
        rw [ht2] at hsJ
        have HKJ := Lib.hid hkJ
        have HXJ := Lib.hid hsJ
        have HQJ := Lib.hid (HQI.out.kt hkJ hsJ.dx)
        have HLJ := Lib.hid hlv
        have HFJ : Hid ((opnD D4 0).fuse = 0) := hfz HFI.out.2
        have HRJ : Hid ((opnD D4 0).room = 65536) := (opnD_room _ _).trans HRI.out
        clear hsJ hkJ hlv hfz hz ht1 ht2 hv4 HO2 HV3 HRI HFI HQI HRM
        generalize opnD D4 0 = D5 at *
        have HX2I := Lib.hid (HXH.out.kt HKI.out HDI.out)
        have HX2J := Lib.hid (HX2I.out.kt HKJ.out HXJ.out.dx)
        clear HXH HX2I HKI HDI HKJ
        have HSX := Lib.hid (seen_any wJ HX2J.out (by have := HV1.out.1; omega) (by have := HV1.out.2.1; omega) (fun x hx => by have := HV1.out.2.2 x hx; omega))
        clear HX2J
        go_wp2_with fail
        refine HSX.out.mono ?_
        rintro e wK ⟨xK, rfl, ⟨pK, cK, rfl, hoK⟩, hbK⟩
        have HWK := Lib.hid (own_ws hoK)
        have HXK := Lib.hid (HXJ.out.below hbK)
        have HQK := Lib.hid (HQJ.out.below hbK)
        clear hoK hbK HSX HXJ HQJ
        have HSY := Lib.hid (seen_any wK HXK.out (by have := HV1.out.1; omega) (by have := HV1.out.2.1; omega) (fun x hx => by have := HV1.out.2.2 x hx; omega))
        go_wp2_with fail
        refine HSY.out.mono ?_
        rintro e wL ⟨xL, rfl, ⟨pL, cL, rfl, hoL⟩, hbL⟩
        have HWL := Lib.hid (own_ws hoL)
        have HWKL := Lib.hid (HWK.out.below hbL)
        have HXL := Lib.hid (HXK.out.below hbL)
        have HQL := Lib.hid (HQK.out.below hbL)
        clear hoL hbL HSY HXK HQK HWK
        have hsa := same_any v1 v1 pK pL cK cL wL HWKL.out HWL.out
        rw [sameB_refl v1 v1 rfl rfl rfl] at hsa
        have HSA := Lib.hid hsa
        clear hsa HWL HWKL
        go_wp2_with fail
        refine HSA.out.mono ?_
        rintro e wM ⟨rfl, hbM⟩
        have HXM := Lib.hid (HXL.out.below hbM)
        have HQM := Lib.hid (HQL.out.below hbM)
        clear hbM HSA HXL HQL
        skip
        go_upto_region 34 with fail
        skip
        -- world wM; HQM, HXM: the boxes, and y
        have hrn : ∀ y, KV w2.heap.size wM y → y.rangeAt nb 0 (seA a pn a.after.length cn).toList := fun y hy => row_rangeV (hy.row HQM.out.nrow (by decide) (by decide) (by decide) (by decide) (by decide))
        have hrx : ∀ y, KV w2.heap.size wM y → y.rangeAt xb 0 (seA b px b.after.length cx).toList := fun y hy => row_rangeV (hy.row HQM.out.xrow (by decide) (by decide) (by decide) (by decide) (by decide))
        have HRN := Lib.hid hrn
        have HRX := Lib.hid hrx
        clear hrn hrx
        refine wp_region_tree (KV w2.heap.size wM) (.take 0 (.take 2 (.one 1 (.one 3 (.take 4 (.take 5 (.take 7 (.one 6 (.one 8 (.take 9 (.take 10 (.take 11 (.one 12 (.one 13 (.take 14 (.take 15 (.take 16 (.one 17 (.take 18 (.take 19 .nil)))))))))))))))))))) (by kernel_rfl) (by kernel_rfl) (KV.of_below (below_drew1 _ _)) ?_
        have hyd : Below wM.heap.size wM wM.drew := below_drew1 _ _
        have HKD := Lib.hid (KV.of_below (base := w2.heap.size) hyd)
        have HXD := Lib.hid (HXM.out.below hyd)
        have HQD := Lib.hid (HQM.out.below hyd)
        clear hyd HQM HXM
        generalize wM.drew = wd at *
        (apply tree_take; (· rfl); (· rfl); (· (intro w' hb'; go_simp; try with_reducible rfl)); try simp only [Act.put, List.setIfInBounds_toArray, List.set_cons_zero, List.set_cons_succ])
        refine tree_load rfl (by rfl) 51 _ rfl nb 0 rfl (seA a pn a.after.length cn) _ (fun w' hb => HRN.out w' hb) Tryz.underlying51 rfl (infoSe _ rfl) ?_
        try simp only [Act.put, List.setIfInBounds_toArray, List.set_cons_zero, List.set_cons_succ]
        have HS1 := Lib.hid (seen_any wd HXD.out (by have := HV1.out.1; omega) (by have := HV1.out.2.1; omega) (fun x hx => by have := HV1.out.2.2 x hx; omega))
        refine tree_one rfl (by rfl) (fun K hK => ?_)
        go_simp
        refine HS1.out.mono ?_
        rintro e we ⟨xe, rfl, ⟨pe, ce, rfl, hoe⟩, hbe⟩
        have HKE := Lib.hid (HKD.out.next hbe)
        have HXE := Lib.hid (HXD.out.below hbe)
        have HQE := Lib.hid (HQD.out.below hbe)
        have HWE := Lib.hid (own_ws hoe)
        refine Shut.out hK _ _ HKE.out ?_
        clear hK K hbe hoe HS1 HKD HXD HQD
        try simp only [Act.put, List.setIfInBounds_toArray, List.set_cons_zero, List.set_cons_succ]
        have HS2 := Lib.hid (same_any v1 a pe pn ce cn we HWE.out (own_ws HQE.out.nown))
        refine tree_one rfl (by rfl) (fun K hK => ?_)
        go_simp
        refine HS2.out.mono ?_
        rintro e wf ⟨rfl, hbf⟩
        have HKG := Lib.hid (HKE.out.next hbf)
        have HXG := Lib.hid (HXE.out.below hbf)
        have HQG := Lib.hid (HQE.out.below hbf)
        refine Shut.out hK _ _ HKG.out ?_
        clear hK K hbf HS2 HKE HXE HQE HWE
        try simp only [Act.put, List.setIfInBounds_toArray, List.set_cons_zero, List.set_cons_succ]
        (apply tree_take; (· rfl); (· rfl); (· (intro w' hb'; go_simp; try with_reducible rfl)); try simp only [Act.put, List.setIfInBounds_toArray, List.set_cons_zero, List.set_cons_succ])
        by_cases hsb : sameB v1 a = true
        · rw [hsb]
          clear hsb
          (refine tree_take_no rfl (by rfl) ?_; try simp only [Act.put, List.setIfInBounds_toArray, List.set_cons_zero, List.set_cons_succ])
          (refine tree_take_no rfl (by rfl) ?_; try simp only [Act.put, List.setIfInBounds_toArray, List.set_cons_zero, List.set_cons_succ])
          (refine tree_one_no rfl (by rfl) HKG.out ?_; try simp only [Act.put, List.setIfInBounds_toArray, List.set_cons_zero, List.set_cons_succ])
          (refine tree_one_no rfl (by rfl) HKG.out ?_; try simp only [Act.put, List.setIfInBounds_toArray, List.set_cons_zero, List.set_cons_succ])
          skip
          -- ops 9 .. 19: world wf
          (apply tree_take; (· rfl); (· rfl); (· (intro w' hb'; go_simp; try with_reducible rfl)); try simp only [Act.put, List.setIfInBounds_toArray, List.set_cons_zero, List.set_cons_succ])
          (apply tree_take; (· rfl); (· rfl); (· (intro w' hb'; go_simp; try with_reducible rfl)); try simp only [Act.put, List.setIfInBounds_toArray, List.set_cons_zero, List.set_cons_succ])
          (apply tree_take; (· rfl); (· rfl); (· (intro w' hb'; go_simp; try with_reducible rfl)); try simp only [Act.put, List.setIfInBounds_toArray, List.set_cons_zero, List.set_cons_succ])
          have hal := Below.allocs wf (.cells #[.int .u8 1] 5)
          have hrow := heap_alloc_last wf (.cells #[.int .u8 1] 5)
          have HKQ := Lib.hid (HKG.out.next hal)
          have HXQ := Lib.hid (HXG.out.below hal)
          have HQQ := Lib.hid (HQG.out.below hal)
          refine tree_one rfl (by rfl) (fun K hK => ?_)
          go_simp
          refine Shut.out hK _ _ HKQ.out ?_
          clear hK K hal HKG HXG HQG
          try simp only [Act.put, List.setIfInBounds_toArray, List.set_cons_zero, List.set_cons_succ]
          have hp := vput_any _ HXQ.out (some ⟨wf.heap.size, 0, none⟩) 1 [1] (fun w' hk => bs_row (hk.row hrow (by decide) (by decide)) rfl (by decide)) (by decide) (by have := HV1.out.2.1; omega) (by have := HLJ.out.few 0; omega)
          unfold VPutP at hp
          rcases live_put (r := [1]) HLJ.out HRJ.out (by have := HNT.out; show (i + bsum (os.take i)) + (1 + 1) ≤ 1100; omega) (by decide) with ⟨e1, -, -⟩ | ⟨-, -, hne, -⟩
          rotate_left
          · exact absurd HFJ.out hne
          rw [e1] at hp
          have HP1 := Lib.hid hp
          clear hp hrow e1
          generalize wf.alloc (.cells #[.int .u8 1] 5) = wq at *
          refine tree_one rfl (by rfl) (fun K hK => ?_)
          go_simp
          refine HP1.out.mono ?_
          rintro e wr9 ⟨rfl, -, hk9⟩
          have HKR := Lib.hid (HKQ.out.trans hk9)
          have HLR := Lib.hid (HQQ.out.low.trans (hk9.below HQQ.out.low.size))
          refine Shut.out hK _ _ HKR.out ?_
          clear hK K hk9 HP1 HKQ HXQ HQQ
          try simp only [Act.put, List.setIfInBounds_toArray, List.set_cons_zero, List.set_cons_succ]
          (apply tree_take; (· rfl); (· rfl); (· (intro w' hb'; go_simp; try with_reducible rfl)); try simp only [Act.put, List.setIfInBounds_toArray, List.set_cons_zero, List.set_cons_succ])
          (apply tree_take; (· rfl); (· rfl); (· (intro w' hb'; go_simp; try with_reducible rfl)); try simp only [Act.put, List.setIfInBounds_toArray, List.set_cons_zero, List.set_cons_succ])
          (apply tree_take; (· rfl); (· rfl); (· (intro w' hb'; go_simp; try with_reducible rfl)); try simp only [Act.put, List.setIfInBounds_toArray, List.set_cons_zero, List.set_cons_succ])
          have HAL := Lib.hid (alive22_any wr9 (HE2.out.below HLR.out HE2.out.lt))
          refine tree_one rfl (by rfl) (fun K hK => ?_)
          go_simp
          refine HAL.out.mono ?_
          rintro e ws ⟨rfl, hbs⟩
          have HBF : Hid (Below w.heap.size w ws) := HBZ.out.trans ((HLR.out.trans (hbs.mono HLR.out.size)).mono HBZ.out.size)
          refine Shut.out hK _ _ (HKR.out.next hbs) ?_
          clear hK K hbs HAL HKR HLR
          try simp only [Act.put, List.setIfInBounds_toArray, List.set_cons_zero, List.set_cons_succ]
          (apply tree_take; (· rfl); (· rfl); (· (intro w' hb'; go_simp; try with_reducible rfl)); try simp only [Act.put, List.setIfInBounds_toArray, List.set_cons_zero, List.set_cons_succ])
          (apply tree_take; (· rfl); (· rfl); (· (intro w' hb'; go_simp; try with_reducible rfl)); try simp only [Act.put, List.setIfInBounds_toArray, List.set_cons_zero, List.set_cons_succ])
          refine tree_nil ?_
          go_wp2_with fail
          go_ret
          exact ⟨rfl, HBF.out⟩
        · have hv1b : v1 = b := HPV.out.elim (fun h => absurd (sameB_refl v1 a (by rw [h]) (by rw [h]) (by rw [h])) hsb) id
          have hsf : sameB v1 a = false := by simpa using hsb
          rw [hsf]
          have HSB : Hid (sameB v1 b = true) := sameB_refl v1 b (by rw [← hv1b]) (by rw [← hv1b]) (by rw [← hv1b])
          clear hsb hsf hv1b
          (apply tree_take; (· rfl); (· rfl); (· (intro w' hb'; go_simp; try with_reducible rfl)); try simp only [Act.put, List.setIfInBounds_toArray, List.set_cons_zero, List.set_cons_succ])
          refine tree_load rfl (by rfl) 51 _ rfl xb 0 rfl (seA b px b.after.length cx) _ (fun w' hb => HRX.out w' hb) Tryz.underlying51 rfl (infoSe _ rfl) ?_
          try simp only [Act.put, List.setIfInBounds_toArray, List.set_cons_zero, List.set_cons_succ]
          have HS1 := Lib.hid (seen_any wf HXG.out (by have := HV1.out.1; omega) (by have := HV1.out.2.1; omega) (fun x hx => by have := HV1.out.2.2 x hx; omega))
          refine tree_one rfl (by rfl) (fun K hK => ?_)
          go_simp
          refine HS1.out.mono ?_
          rintro e wg ⟨xg, rfl, ⟨pg, cg, rfl, hog2⟩, hbg⟩
          have HKH := Lib.hid (HKG.out.next hbg)
          have HXH := Lib.hid (HXG.out.below hbg)
          have HQH := Lib.hid (HQG.out.below hbg)
          have HWH := Lib.hid (own_ws hog2)
          refine Shut.out hK _ _ HKH.out ?_
          clear hK K hbg hog2 HS1 HKG HXG HQG
          try simp only [Act.put, List.setIfInBounds_toArray, List.set_cons_zero, List.set_cons_succ]
          have hs2 := same_any v1 b pg px cg cx wg HWH.out (own_ws HQH.out.xown)
          rw [HSB.out] at hs2
          have HS2 := Lib.hid hs2
          clear hs2
          refine tree_one rfl (by rfl) (fun K hK => ?_)
          go_simp
          refine HS2.out.mono ?_
          rintro e wh ⟨rfl, hbh⟩
          have HKI := Lib.hid (HKH.out.next hbh)
          have HXI := Lib.hid (HXH.out.below hbh)
          have HQI := Lib.hid (HQH.out.below hbh)
          refine Shut.out hK _ _ HKI.out ?_
          clear hK K hbh HS2 HKH HXH HQH HWH
          try simp only [Act.put, List.setIfInBounds_toArray, List.set_cons_zero, List.set_cons_succ]
          skip
          -- ops 9 .. 19: world wh
          (apply tree_take; (· rfl); (· rfl); (· (intro w' hb'; go_simp; try with_reducible rfl)); try simp only [Act.put, List.setIfInBounds_toArray, List.set_cons_zero, List.set_cons_succ])
          (apply tree_take; (· rfl); (· rfl); (· (intro w' hb'; go_simp; try with_reducible rfl)); try simp only [Act.put, List.setIfInBounds_toArray, List.set_cons_zero, List.set_cons_succ])
          (apply tree_take; (· rfl); (· rfl); (· (intro w' hb'; go_simp; try with_reducible rfl)); try simp only [Act.put, List.setIfInBounds_toArray, List.set_cons_zero, List.set_cons_succ])
          have hal := Below.allocs wh (.cells #[.int .u8 1] 5)
          have hrow := heap_alloc_last wh (.cells #[.int .u8 1] 5)
          have HKQ := Lib.hid (HKI.out.next hal)
          have HXQ := Lib.hid (HXI.out.below hal)
          have HQQ := Lib.hid (HQI.out.below hal)
          refine tree_one rfl (by rfl) (fun K hK => ?_)
          go_simp
          refine Shut.out hK _ _ HKQ.out ?_
          clear hK K hal HKI HXI HQI
          try simp only [Act.put, List.setIfInBounds_toArray, List.set_cons_zero, List.set_cons_succ]
          have hp := vput_any _ HXQ.out (some ⟨wh.heap.size, 0, none⟩) 1 [1] (fun w' hk => bs_row (hk.row hrow (by decide) (by decide)) rfl (by decide)) (by decide) (by have := HV1.out.2.1; omega) (by have := HLJ.out.few 0; omega)
          unfold VPutP at hp
          rcases live_put (r := [1]) HLJ.out HRJ.out (by have := HNT.out; show (i + bsum (os.take i)) + (1 + 1) ≤ 1100; omega) (by decide) with ⟨e1, -, -⟩ | ⟨-, -, hne, -⟩
          rotate_left
          · exact absurd HFJ.out hne
          rw [e1] at hp
          have HP1 := Lib.hid hp
          clear hp hrow e1
          generalize wh.alloc (.cells #[.int .u8 1] 5) = wq at *
          refine tree_one rfl (by rfl) (fun K hK => ?_)
          go_simp
          refine HP1.out.mono ?_
          rintro e wr9 ⟨rfl, -, hk9⟩
          have HKR := Lib.hid (HKQ.out.trans hk9)
          have HLR := Lib.hid (HQQ.out.low.trans (hk9.below HQQ.out.low.size))
          refine Shut.out hK _ _ HKR.out ?_
          clear hK K hk9 HP1 HKQ HXQ HQQ
          try simp only [Act.put, List.setIfInBounds_toArray, List.set_cons_zero, List.set_cons_succ]
          (apply tree_take; (· rfl); (· rfl); (· (intro w' hb'; go_simp; try with_reducible rfl)); try simp only [Act.put, List.setIfInBounds_toArray, List.set_cons_zero, List.set_cons_succ])
          (apply tree_take; (· rfl); (· rfl); (· (intro w' hb'; go_simp; try with_reducible rfl)); try simp only [Act.put, List.setIfInBounds_toArray, List.set_cons_zero, List.set_cons_succ])
          (apply tree_take; (· rfl); (· rfl); (· (intro w' hb'; go_simp; try with_reducible rfl)); try simp only [Act.put, List.setIfInBounds_toArray, List.set_cons_zero, List.set_cons_succ])
          have HAL := Lib.hid (alive22_any wr9 (HE2.out.below HLR.out HE2.out.lt))
          refine tree_one rfl (by rfl) (fun K hK => ?_)
          go_simp
          refine HAL.out.mono ?_
          rintro e ws ⟨rfl, hbs⟩
          have HBF : Hid (Below w.heap.size w ws) := HBZ.out.trans ((HLR.out.trans (hbs.mono HLR.out.size)).mono HBZ.out.size)
          refine Shut.out hK _ _ (HKR.out.next hbs) ?_
          clear hK K hbs HAL HKR HLR
          try simp only [Act.put, List.setIfInBounds_toArray, List.set_cons_zero, List.set_cons_succ]
          (apply tree_take; (· rfl); (· rfl); (· (intro w' hb'; go_simp; try with_reducible rfl)); try simp only [Act.put, List.setIfInBounds_toArray, List.set_cons_zero, List.set_cons_succ])
          (apply tree_take; (· rfl); (· rfl); (· (intro w' hb'; go_simp; try with_reducible rfl)); try simp only [Act.put, List.setIfInBounds_toArray, List.set_cons_zero, List.set_cons_succ])
          refine tree_nil ?_
          go_wp2_with fail
          go_ret
          exact ⟨rfl, HBF.out⟩
      · rcases hsH with ⟨_, rfl, hdH⟩ | ⟨hc, _⟩
        rotate_left
        · rw [hz] at hc; exact absurd hc (by decide)
        have HQH := Lib.hid (HQG.out.kt hkH hdH)
        have HV3 : Hid (∃ x4 z1 z2, Vd (crashD [u3, u4, u5] (opnD D2 0)) x4 z1 z2 s1 v1 (i + bsum (os.take i))) := by
          obtain ⟨x4, hv4⟩ := hlv [u3, u4, u5]
          exact ⟨x4, y1, y2, hv4⟩
        rw [hz]
        clear hdH hlv hkH hz ho1 ho2 HQG
        generalize opnD D2 0 = D3 at *
        skip
        -- Crash(units[3:]...), and Open: world wH, HQH : KQ D3; HV3
        have hrw := Below.keepOld HQH.out.low HQ2.out
        have hn2 : Ns wH (some ⟨w.heap.size + 1, 3, none⟩) [u3, u4, u5].length 3 [u3, u4, u5] := ns_sub hrw (fun j u hj => by
          match j, hj with
          | 0, hj => exact hj
          | 1, hj => exact hj
          | 2, hj => exact hj
          | j + 3, hj => cases hj) (show (3 : Nat) ≤ 3 by decide) (by decide) (fun x hx => hun x (by
            simp only [List.mem_cons, List.not_mem_nil, or_false] at hx ⊢
            rcases hx with h | h | h <;> simp [h]))
        have HC2 := Lib.hid (scrash wH HQH.out.dx [u3, u4, u5] (some ⟨w.heap.size + 1, 3, none⟩) 3 hn2 (HAP.out wH HQH.out.low 3))
        clear hrw hn2
        have hsl2 := HSL2.out
        go_wp2_with fail
        refine HC2.out.mono ?_
        rintro e wI ⟨rfl, hdI, hkI⟩
        have HKI := Lib.hid hkI
        have HDI := Lib.hid hdI
        have HQI := Lib.hid (HQH.out.kt hkI hdI)
        have HRI : Hid ((crashD [u3, u4, u5] D3).room = 65536) := HRM.out
        have HFI : Hid ((crashD [u3, u4, u5] D3).down = false ∧ (crashD [u3, u4, u5] D3).fuse = 0) := ⟨rfl, rfl⟩
        clear hdI hkI HC2 HQH hsl2
        generalize crashD [u3, u4, u5] D3 = D4 at *
        obtain ⟨x4, z1, z2, hv4⟩ := HV3.out
        obtain ⟨ht1, ht2, ht3⟩ := left_open hv4 HFI.out.1 HQI.out.dx.room.2.2
        rcases ht3 with ⟨hz, hlv, hfz⟩ | ⟨_, hne, _⟩
        rotate_left
        · exact absurd HFI.out.2 hne
        have HO2 := Lib.hid (vopen_any wI (HE2.out.below HQI.out.low HE2.out.lt) HG2.out.1 HQI.out.dx HFI.out.1 (by have := hv4.few 0; omega) (fun _ h => by rw [ht1] at h; cases h))
        go_wp2_with fail
        refine HO2.out.mono ?_
        rintro e wJ ⟨hkJ, hsJ⟩
        rcases hsJ with ⟨hc, _⟩ | ⟨_, vv, rb3, sb3, vb3, hv, rfl, hsJ⟩
        · exact absurd hz hc
        rw [ht1] at hv
        obtain rfl := Option.some.inj hv
        rw [ht2] at hsJ
        have HKJ := Lib.hid hkJ
        have HXJ := Lib.hid hsJ
        have HQJ := Lib.hid (HQI.out.kt hkJ hsJ.dx)
        have HLJ := Lib.hid hlv
        have HFJ : Hid ((opnD D4 0).fuse = 0) := hfz HFI.out.2
        have HRJ : Hid ((opnD D4 0).room = 65536) := (opnD_room _ _).trans HRI.out
        clear hsJ hkJ hlv hfz hz ht1 ht2 hv4 HO2 HV3 HRI HFI HQI HRM
        generalize opnD D4 0 = D5 at *
        clear HKI HDI HKJ
        skip
        go_upto_region 34 with fail
        skip
        -- world wJ; HQJ, HXJ: the boxes, and y
        have hrn : ∀ y, KV w2.heap.size wJ y → y.rangeAt nb 0 (seA a pn a.after.length cn).toList := fun y hy => row_rangeV (hy.row HQJ.out.nrow (by decide) (by decide) (by decide) (by decide) (by decide))
        have hrx : ∀ y, KV w2.heap.size wJ y → y.rangeAt xb 0 (seA b px b.after.length cx).toList := fun y hy => row_rangeV (hy.row HQJ.out.xrow (by decide) (by decide) (by decide) (by decide) (by decide))
        have HRN := Lib.hid hrn
        have HRX := Lib.hid hrx
        clear hrn hrx
        refine wp_region_tree (KV w2.heap.size wJ) (.take 0 (.take 2 (.one 1 (.one 3 (.take 4 (.take 5 (.take 7 (.one 6 (.one 8 (.take 9 (.take 10 (.take 11 (.one 12 (.one 13 (.take 14 (.take 15 (.take 16 (.one 17 (.take 18 (.take 19 .nil)))))))))))))))))))) (by kernel_rfl) (by kernel_rfl) (KV.of_below (below_drew1 _ _)) ?_
        have hyd : Below wJ.heap.size wJ wJ.drew := below_drew1 _ _
        have HKD := Lib.hid (KV.of_below (base := w2.heap.size) hyd)
        have HXD := Lib.hid (HXJ.out.below hyd)
        have HQD := Lib.hid (HQJ.out.below hyd)
        clear hyd HQJ HXJ
        generalize wJ.drew = wd at *
        (apply tree_take; (· rfl); (· rfl); (· (intro w' hb'; go_simp; try with_reducible rfl)); try simp only [Act.put, List.setIfInBounds_toArray, List.set_cons_zero, List.set_cons_succ])
        refine tree_load rfl (by rfl) 51 _ rfl nb 0 rfl (seA a pn a.after.length cn) _ (fun w' hb => HRN.out w' hb) Tryz.underlying51 rfl (infoSe _ rfl) ?_
        try simp only [Act.put, List.setIfInBounds_toArray, List.set_cons_zero, List.set_cons_succ]
        have HS1 := Lib.hid (seen_any wd HXD.out (by have := HV1.out.1; omega) (by have := HV1.out.2.1; omega) (fun x hx => by have := HV1.out.2.2 x hx; omega))
        refine tree_one rfl (by rfl) (fun K hK => ?_)
        go_simp
        refine HS1.out.mono ?_
        rintro e we ⟨xe, rfl, ⟨pe, ce, rfl, hoe⟩, hbe⟩
        have HKE := Lib.hid (HKD.out.next hbe)
        have HXE := Lib.hid (HXD.out.below hbe)
        have HQE := Lib.hid (HQD.out.below hbe)
        have HWE := Lib.hid (own_ws hoe)
        refine Shut.out hK _ _ HKE.out ?_
        clear hK K hbe hoe HS1 HKD HXD HQD
        try simp only [Act.put, List.setIfInBounds_toArray, List.set_cons_zero, List.set_cons_succ]
        have HS2 := Lib.hid (same_any v1 a pe pn ce cn we HWE.out (own_ws HQE.out.nown))
        refine tree_one rfl (by rfl) (fun K hK => ?_)
        go_simp
        refine HS2.out.mono ?_
        rintro e wf ⟨rfl, hbf⟩
        have HKG := Lib.hid (HKE.out.next hbf)
        have HXG := Lib.hid (HXE.out.below hbf)
        have HQG := Lib.hid (HQE.out.below hbf)
        refine Shut.out hK _ _ HKG.out ?_
        clear hK K hbf HS2 HKE HXE HQE HWE
        try simp only [Act.put, List.setIfInBounds_toArray, List.set_cons_zero, List.set_cons_succ]
        (apply tree_take; (· rfl); (· rfl); (· (intro w' hb'; go_simp; try with_reducible rfl)); try simp only [Act.put, List.setIfInBounds_toArray, List.set_cons_zero, List.set_cons_succ])
        by_cases hsb : sameB v1 a = true
        · rw [hsb]
          clear hsb
          (refine tree_take_no rfl (by rfl) ?_; try simp only [Act.put, List.setIfInBounds_toArray, List.set_cons_zero, List.set_cons_succ])
          (refine tree_take_no rfl (by rfl) ?_; try simp only [Act.put, List.setIfInBounds_toArray, List.set_cons_zero, List.set_cons_succ])
          (refine tree_one_no rfl (by rfl) HKG.out ?_; try simp only [Act.put, List.setIfInBounds_toArray, List.set_cons_zero, List.set_cons_succ])
          (refine tree_one_no rfl (by rfl) HKG.out ?_; try simp only [Act.put, List.setIfInBounds_toArray, List.set_cons_zero, List.set_cons_succ])
          skip
          -- ops 9 .. 19: world wf
          (apply tree_take; (· rfl); (· rfl); (· (intro w' hb'; go_simp; try with_reducible rfl)); try simp only [Act.put, List.setIfInBounds_toArray, List.set_cons_zero, List.set_cons_succ])
          (apply tree_take; (· rfl); (· rfl); (· (intro w' hb'; go_simp; try with_reducible rfl)); try simp only [Act.put, List.setIfInBounds_toArray, List.set_cons_zero, List.set_cons_succ])
          (apply tree_take; (· rfl); (· rfl); (· (intro w' hb'; go_simp; try with_reducible rfl)); try simp only [Act.put, List.setIfInBounds_toArray, List.set_cons_zero, List.set_cons_succ])
          have hal := Below.allocs wf (.cells #[.int .u8 1] 5)
          have hrow := heap_alloc_last wf (.cells #[.int .u8 1] 5)
          have HKQ := Lib.hid (HKG.out.next hal)
          have HXQ := Lib.hid (HXG.out.below hal)
          have HQQ := Lib.hid (HQG.out.below hal)
          refine tree_one rfl (by rfl) (fun K hK => ?_)
          go_simp
          refine Shut.out hK _ _ HKQ.out ?_
          clear hK K hal HKG HXG HQG
          try simp only [Act.put, List.setIfInBounds_toArray, List.set_cons_zero, List.set_cons_succ]
          have hp := vput_any _ HXQ.out (some ⟨wf.heap.size, 0, none⟩) 1 [1] (fun w' hk => bs_row (hk.row hrow (by decide) (by decide)) rfl (by decide)) (by decide) (by have := HV1.out.2.1; omega) (by have := HLJ.out.few 0; omega)
          unfold VPutP at hp
          rcases live_put (r := [1]) HLJ.out HRJ.out (by have := HNT.out; show (i + bsum (os.take i)) + (1 + 1) ≤ 1100; omega) (by decide) with ⟨e1, -, -⟩ | ⟨-, -, hne, -⟩
          rotate_left
          · exact absurd HFJ.out hne
          rw [e1] at hp
          have HP1 := Lib.hid hp
          clear hp hrow e1
          generalize wf.alloc (.cells #[.int .u8 1] 5) = wq at *
          refine tree_one rfl (by rfl) (fun K hK => ?_)
          go_simp
          refine HP1.out.mono ?_
          rintro e wr9 ⟨rfl, -, hk9⟩
          have HKR := Lib.hid (HKQ.out.trans hk9)
          have HLR := Lib.hid (HQQ.out.low.trans (hk9.below HQQ.out.low.size))
          refine Shut.out hK _ _ HKR.out ?_
          clear hK K hk9 HP1 HKQ HXQ HQQ
          try simp only [Act.put, List.setIfInBounds_toArray, List.set_cons_zero, List.set_cons_succ]
          (apply tree_take; (· rfl); (· rfl); (· (intro w' hb'; go_simp; try with_reducible rfl)); try simp only [Act.put, List.setIfInBounds_toArray, List.set_cons_zero, List.set_cons_succ])
          (apply tree_take; (· rfl); (· rfl); (· (intro w' hb'; go_simp; try with_reducible rfl)); try simp only [Act.put, List.setIfInBounds_toArray, List.set_cons_zero, List.set_cons_succ])
          (apply tree_take; (· rfl); (· rfl); (· (intro w' hb'; go_simp; try with_reducible rfl)); try simp only [Act.put, List.setIfInBounds_toArray, List.set_cons_zero, List.set_cons_succ])
          have HAL := Lib.hid (alive22_any wr9 (HE2.out.below HLR.out HE2.out.lt))
          refine tree_one rfl (by rfl) (fun K hK => ?_)
          go_simp
          refine HAL.out.mono ?_
          rintro e ws ⟨rfl, hbs⟩
          have HBF : Hid (Below w.heap.size w ws) := HBZ.out.trans ((HLR.out.trans (hbs.mono HLR.out.size)).mono HBZ.out.size)
          refine Shut.out hK _ _ (HKR.out.next hbs) ?_
          clear hK K hbs HAL HKR HLR
          try simp only [Act.put, List.setIfInBounds_toArray, List.set_cons_zero, List.set_cons_succ]
          (apply tree_take; (· rfl); (· rfl); (· (intro w' hb'; go_simp; try with_reducible rfl)); try simp only [Act.put, List.setIfInBounds_toArray, List.set_cons_zero, List.set_cons_succ])
          (apply tree_take; (· rfl); (· rfl); (· (intro w' hb'; go_simp; try with_reducible rfl)); try simp only [Act.put, List.setIfInBounds_toArray, List.set_cons_zero, List.set_cons_succ])
          refine tree_nil ?_
          go_wp2_with fail
          go_ret
          exact ⟨rfl, HBF.out⟩
        · have hv1b : v1 = b := HPV.out.elim (fun h => absurd (sameB_refl v1 a (by rw [h]) (by rw [h]) (by rw [h])) hsb) id
          have hsf : sameB v1 a = false := by simpa using hsb
          rw [hsf]
          have HSB : Hid (sameB v1 b = true) := sameB_refl v1 b (by rw [← hv1b]) (by rw [← hv1b]) (by rw [← hv1b])
          clear hsb hsf hv1b
          (apply tree_take; (· rfl); (· rfl); (· (intro w' hb'; go_simp; try with_reducible rfl)); try simp only [Act.put, List.setIfInBounds_toArray, List.set_cons_zero, List.set_cons_succ])
          refine tree_load rfl (by rfl) 51 _ rfl xb 0 rfl (seA b px b.after.length cx) _ (fun w' hb => HRX.out w' hb) Tryz.underlying51 rfl (infoSe _ rfl) ?_
          try simp only [Act.put, List.setIfInBounds_toArray, List.set_cons_zero, List.set_cons_succ]
          have HS1 := Lib.hid (seen_any wf HXG.out (by have := HV1.out.1; omega) (by have := HV1.out.2.1; omega) (fun x hx => by have := HV1.out.2.2 x hx; omega))
          refine tree_one rfl (by rfl) (fun K hK => ?_)
          go_simp
          refine HS1.out.mono ?_
          rintro e wg ⟨xg, rfl, ⟨pg, cg, rfl, hog2⟩, hbg⟩
          have HKH := Lib.hid (HKG.out.next hbg)
          have HXH := Lib.hid (HXG.out.below hbg)
          have HQH := Lib.hid (HQG.out.below hbg)
          have HWH := Lib.hid (own_ws hog2)
          refine Shut.out hK _ _ HKH.out ?_
          clear hK K hbg hog2 HS1 HKG HXG HQG
          try simp only [Act.put, List.setIfInBounds_toArray, List.set_cons_zero, List.set_cons_succ]
          have hs2 := same_any v1 b pg px cg cx wg HWH.out (own_ws HQH.out.xown)
          rw [HSB.out] at hs2
          have HS2 := Lib.hid hs2
          clear hs2
          refine tree_one rfl (by rfl) (fun K hK => ?_)
          go_simp
          refine HS2.out.mono ?_
          rintro e wh ⟨rfl, hbh⟩
          have HKI := Lib.hid (HKH.out.next hbh)
          have HXI := Lib.hid (HXH.out.below hbh)
          have HQI := Lib.hid (HQH.out.below hbh)
          refine Shut.out hK _ _ HKI.out ?_
          clear hK K hbh HS2 HKH HXH HQH HWH
          try simp only [Act.put, List.setIfInBounds_toArray, List.set_cons_zero, List.set_cons_succ]
          skip
          -- ops 9 .. 19: world wh
          (apply tree_take; (· rfl); (· rfl); (· (intro w' hb'; go_simp; try with_reducible rfl)); try simp only [Act.put, List.setIfInBounds_toArray, List.set_cons_zero, List.set_cons_succ])
          (apply tree_take; (· rfl); (· rfl); (· (intro w' hb'; go_simp; try with_reducible rfl)); try simp only [Act.put, List.setIfInBounds_toArray, List.set_cons_zero, List.set_cons_succ])
          (apply tree_take; (· rfl); (· rfl); (· (intro w' hb'; go_simp; try with_reducible rfl)); try simp only [Act.put, List.setIfInBounds_toArray, List.set_cons_zero, List.set_cons_succ])
          have hal := Below.allocs wh (.cells #[.int .u8 1] 5)
          have hrow := heap_alloc_last wh (.cells #[.int .u8 1] 5)
          have HKQ := Lib.hid (HKI.out.next hal)
          have HXQ := Lib.hid (HXI.out.below hal)
          have HQQ := Lib.hid (HQI.out.below hal)
          refine tree_one rfl (by rfl) (fun K hK => ?_)
          go_simp
          refine Shut.out hK _ _ HKQ.out ?_
          clear hK K hal HKI HXI HQI
          try simp only [Act.put, List.setIfInBounds_toArray, List.set_cons_zero, List.set_cons_succ]
          have hp := vput_any _ HXQ.out (some ⟨wh.heap.size, 0, none⟩) 1 [1] (fun w' hk => bs_row (hk.row hrow (by decide) (by decide)) rfl (by decide)) (by decide) (by have := HV1.out.2.1; omega) (by have := HLJ.out.few 0; omega)
          unfold VPutP at hp
          rcases live_put (r := [1]) HLJ.out HRJ.out (by have := HNT.out; show (i + bsum (os.take i)) + (1 + 1) ≤ 1100; omega) (by decide) with ⟨e1, -, -⟩ | ⟨-, -, hne, -⟩
          rotate_left
          · exact absurd HFJ.out hne
          rw [e1] at hp
          have HP1 := Lib.hid hp
          clear hp hrow e1
          generalize wh.alloc (.cells #[.int .u8 1] 5) = wq at *
          refine tree_one rfl (by rfl) (fun K hK => ?_)
          go_simp
          refine HP1.out.mono ?_
          rintro e wr9 ⟨rfl, -, hk9⟩
          have HKR := Lib.hid (HKQ.out.trans hk9)
          have HLR := Lib.hid (HQQ.out.low.trans (hk9.below HQQ.out.low.size))
          refine Shut.out hK _ _ HKR.out ?_
          clear hK K hk9 HP1 HKQ HXQ HQQ
          try simp only [Act.put, List.setIfInBounds_toArray, List.set_cons_zero, List.set_cons_succ]
          (apply tree_take; (· rfl); (· rfl); (· (intro w' hb'; go_simp; try with_reducible rfl)); try simp only [Act.put, List.setIfInBounds_toArray, List.set_cons_zero, List.set_cons_succ])
          (apply tree_take; (· rfl); (· rfl); (· (intro w' hb'; go_simp; try with_reducible rfl)); try simp only [Act.put, List.setIfInBounds_toArray, List.set_cons_zero, List.set_cons_succ])
          (apply tree_take; (· rfl); (· rfl); (· (intro w' hb'; go_simp; try with_reducible rfl)); try simp only [Act.put, List.setIfInBounds_toArray, List.set_cons_zero, List.set_cons_succ])
          have HAL := Lib.hid (alive22_any wr9 (HE2.out.below HLR.out HE2.out.lt))
          refine tree_one rfl (by rfl) (fun K hK => ?_)
          go_simp
          refine HAL.out.mono ?_
          rintro e ws ⟨rfl, hbs⟩
          have HBF : Hid (Below w.heap.size w ws) := HBZ.out.trans ((HLR.out.trans (hbs.mono HLR.out.size)).mono HBZ.out.size)
          refine Shut.out hK _ _ (HKR.out.next hbs) ?_
          clear hK K hbs HAL HKR HLR
          try simp only [Act.put, List.setIfInBounds_toArray, List.set_cons_zero, List.set_cons_succ]
          (apply tree_take; (· rfl); (· rfl); (· (intro w' hb'; go_simp; try with_reducible rfl)); try simp only [Act.put, List.setIfInBounds_toArray, List.set_cons_zero, List.set_cons_succ])
          (apply tree_take; (· rfl); (· rfl); (· (intro w' hb'; go_simp; try with_reducible rfl)); try simp only [Act.put, List.setIfInBounds_toArray, List.set_cons_zero, List.set_cons_succ])
          refine tree_nil ?_
          go_wp2_with fail
          go_ret
          exact ⟨rfl, HBF.out⟩
end Go.Proofs.YtnejjfglkindjaaGreatDoor.Vlt
