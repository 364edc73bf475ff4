/- PARTS, JOINED: LAYER 20: RollKeeps: whatever crashes, and whenever. Conditions: the laid cell of errors.errorType; a bulk that an int holds. WHAT THE BOUND OF AN '..UptoSaid' GIVES: sizes of what came in. Conditions: the bound. -/
import Derived.Test.YtkacmgfehmjijaaDoorOk1
import Derived.Test.YtkacmgfehmjijaaDoorOk2
import Derived.Test.YtkacmgfehmjijaaDoorOk3
import Derived.Test.YtkacmgfehmjijaaDoorOk4
import Derived.Test.YtkacmgfehmjijaaDoorOk5
import Derived.Test.YtkacmgfehmjijaaDoorOk6
import Derived.Test.YtkacmgfehmjijaaDoorOk7
import Derived.Test.YtkacmgfehmjijaaDoorRows
namespace Go.Proofs.YtkacmgfehmjijaaDoor.Rol
open Go.RowKit Go.Mir Go.Mir.Parts Dk
open Frm (frame scan)
open Cut (Ls LsO LsA)

theorem cutL {w : World} {p : Option Addr} {L c : Nat} {ls : List (List UInt8)} (h : Pts w p L c ls) (m : Nat) (hk : m ≤ L) :
    (∀ w0, (Instr.sliceAt 22 (.slice p L c) none (some (.int .i64 (m : Int))) none).run Tryd.prog w0 = .ok (.slice p m c) w0) := by
  have hle := h.le
  have hmax := h.max
  have hsz : (Tryd.prog.info? 33).map (·.size) = some 1 := by kernel_rfl
  obtain ⟨i, hi, hi1⟩ := Option.map_eq_some_iff.1 hsz
  intro w0
  have hb1 : (0 : Int) ≤ (m : Int) ∧ (m : Int) ≤ (c : Int) := by omega
  have hp : p.map (fun a => a.add 0) = p := by cases p <;> rfl
  simp [Instr.sliceAt, Instr.slice, run_underlying Tryd.underlying22, Instr.sliceBounds, Instr.sliceBound, asIntOf, sizeOf, typeInfo, hi, hi1, hb1, hp]
  try omega
theorem pts_take {w : World} {p : Option Addr} {n c : Nat} {ls : List (List UInt8)} (h : Pts w p n c ls) (k : Nat) (hk : k ≤ n) : Pts w p k c (ls.take k) :=
  ⟨by rw [List.length_take, h.len]; omega, Nat.le_trans hk h.le, h.max, h.nil0, fun a ha j hj => by
    have hj2 : j < ls.length := by rw [List.length_take] at hj; omega
    obtain ⟨q, m, d, h1, h2⟩ := h.cell a ha j hj2
    exact ⟨q, m, d, h1, by rw [List.getElem_take]; exact h2⟩⟩
theorem len_ne (n : Nat) : ((n : Int) == ((n + 1 : Nat) : Int)) = false := by rw [beq_eq_false_iff_ne]; omega
theorem len_ne2 (n : Nat) : (n == n + 1) = false := by rw [beq_eq_false_iff_ne]; omega
set_option maxRecDepth 100000 in
set_option maxHeartbeats 6400000 in
theorem law_keeps (p0 : Option Addr) (n0 c0 : Nat) (ls : List (List UInt8)) (fz un : Nat) (hfz : fz < 256) (hun : un < 256) (w : World) (hE : Rdr.EType w) (hP : Pts w p0 n0 c0 ls) (hs : n0 + R02.total ls ≤ 4611686018427387904) :
    Calls Tryd.prog 3 #[.slice p0 n0 c0, .int .u8 (fz : Int), .int .u8 (un : Int)] w fun e w' => e = .returned (.bool true) ∧ Below w.heap.size w w' := by
  have HE := Lib.hid hE
  have HP := Lib.hid hP
  have HNP := Lib.hid hP.len
  have hla := hP.le
  have hma := hP.max
  have HFEW := Lib.hid (R02.few_any p0 n0 c0 ls 1000 w hP hs (by omega))
  have HB0 : Hid (Below w.heap.size w w) := Below.refl _ _
  clear hE hP
  by_cases hfew : n0 + R02.total ls ≤ 1000
  rotate_left
  · have HD : Hid (decide (n0 + R02.total ls ≤ 1000) = false) := decide_eq_false hfew
    clear hfew hs
    go_enter Tryd.func3, Tryd.ntmps3
    go_wp2_with fail
    refine HFEW.out.mono ?_
    rintro e w' ⟨rfl, rfl⟩
    rw [HD.out]
    skip
    go_wp2_with fail
    refine (alive20_any _ (HE.out.below (HB0.out) HE.out.lt)).mono ?_
    rintro e w99 ⟨rfl, hb99⟩
    have HB99 : Hid (Below w.heap.size w w99) := Below.trans (HB0.out) (hb99.mono (Below.size (HB0.out)))
    clear hb99
    go_wp2_with fail
    go_ret
    exact ⟨rfl, HB99.out⟩
  have HD : Hid (decide (n0 + R02.total ls ≤ 1000) = true) := decide_eq_true hfew
  have HTOT := Lib.hid hfew
  have HN : Hid (Calls Tryd.prog 8 #[.int .i64 65536] w fun e w' => ∃ db, e = .returned (.tuple #[.pointer (some ⟨db, 0, none⟩), .int .i64 0]) ∧ DX w.heap.size db (DD.new 65536) w' ∧ Below w.heap.size w w') := xnew 65536 w (by omega)
  clear hfew hs
  go_enter Tryd.func3, Tryd.ntmps3
  go_wp2_with fail
  refine HFEW.out.mono ?_
  rintro e w' ⟨rfl, rfl⟩
  rw [HD.out]
  clear HD HFEW
  go_wp2_with fail
  refine HN.out.mono ?_
  rintro e w1 ⟨db, rfl, hd1, hb1⟩
  rw [new_dI 65536 1] at hd1
  have HB1 := Lib.hid hb1
  have ho := open_any w1 (HE.out.below hb1 HE.out.lt) hd1 (i := 1) (by omega) (few_dI _ _ _ _ (by omega) _)
  obtain ⟨o1, o2⟩ := open_up 65536 1 (by omega) [] (by decide)
  rw [List.take_nil] at o2
  have HO := Lib.hid ho
  have HO1 := Lib.hid o1
  have HO2 := Lib.hid o2
  clear hd1 hb1 ho o1 o2 HN
  go_wp2_with fail
  refine HO.out.mono ?_
  rintro e w2 ⟨hd2, hk2, hs2⟩
  rw [HO1.out] at hs2
  rw [HO2.out] at hd2
  rcases hs2 with ⟨_, rb, rfl, hr2⟩ | ⟨hc, _⟩
  rotate_left
  · exact absurd rfl hc
  have HR2 := Lib.hid hr2
  have HB2 := Lib.hid (HB1.out.trans (hk2.below HB1.out.size))
  have har := xarm w2 hd2 ((fz : Int) % 30) (by omega)
  have HAR := Lib.hid har
  clear hd2 hk2 hr2 HO HO1 HO2 har
  go_wp2_with fail
  refine HAR.out.mono ?_
  rintro e w3 ⟨rfl, hd3, hk3⟩
  have hd3 : DX w.heap.size db (dI 65536 ((fz : Int) % 30).toNat false 1 (fS [])) w3 := hd3
  have hal : Below w3.heap.size w3 (w3.alloc (.cells #[] 5)) := Below.allocs _ _
  have HD4 := Lib.hid (hd3.below hal)
  have HR4 := Lib.hid ((HR2.out.kt hk3).below hal)
  have HB3 := Lib.hid (HB2.out.trans (hk3.below HB2.out.size))
  have HB4 := Lib.hid (HB3.out.trans (hal.mono HB3.out.size))
  have HKS : Hid (KS 65536 1 [] [] (dI 65536 ((fz : Int) % 30).toNat false 1 (fS []))) := ⟨.inl ⟨rfl, _, rfl⟩, fun x hx => (nomatch hx)⟩
  clear hd3 hk3 hal HAR
  generalize dI 65536 ((fz : Int) % 30).toNat false 1 (fS []) = D0 at *
  go_wp2_with fail
  go_loopw [11, 12, 49] (fun x11 x12 j wr => ∃ (i : Nat) (T : List (List UInt8)) (L : List UInt8) (D : DD), i ≤ n0 ∧ j = .int .i64 i ∧ KS 65536 1 T L D ∧ DX w.heap.size db D wr ∧ RolAt wr rb db 1 ∧ LsA w wr w.heap.size x11 T ∧ (∃ q k, x12 = .slice q L.length k ∧ Bs w q L.length k L) ∧ ((T.flatMap frame).length ≤ 9 * R02.total (ls.take i) ∧ T.length ≤ R02.total (ls.take i)) ∧ L.length ≤ 1000 ∧ Below w.heap.size w wr) (fun _ _ j _ => n0 - (intOf j).toNat)
  case atStart => exact ⟨0, [], [], D0, by omega, rfl, HKS.out, HD4.out, HR4.out, LsA.nil _ _ _, ⟨_, _, rfl, slast_none _ _⟩, ⟨Nat.zero_le _, Nat.zero_le _⟩, Nat.zero_le _, HB4.out⟩
  case round =>
    clear HKS HD4 HR4
    obtain ⟨i, T, L, D, hi, rfl, hks, hdx, hrl, hla2, ⟨ql, kl, rfl, hbl⟩, hbd, hL1, hbw⟩ := hrel
    have HKS := Lib.hid hks
    have HDX := Lib.hid hdx
    have HRL := Lib.hid hrl
    have HLA := Lib.hid hla2
    have HLB := Lib.hid hbl
    have HBD := Lib.hid hbd
    have HL1 := Lib.hid hL1
    have HBW := Lib.hid hbw
    clear hks hdx hrl hla2 hbl hbd hL1 hbw
    by_cases hlt : i < n0
    · obtain ⟨b, o, rfl⟩ := HP.out.addr (by omega)
      have hil : i < ls.length := by rw [HNP.out]; exact hlt
      obtain ⟨q, m, dd, hcell, hbx⟩ := (HP.out.below HBW.out).cell _ rfl i hil
      rw [add_none] at hcell
      have htt := total_take_succ ls i hil
      have htl := R02.total_le ls (i + 1)
      have hbx0 : Bs w q m dd (ls[i]'hil) := by
        obtain ⟨q', m', d', hc', hb'⟩ := HP.out.cell _ rfl i hil
        rw [add_none] at hc'
        have := cell_below hc' HBW.out
        rw [hcell] at this
        injection this with e1
        injection e1 with e2 e3 e4
        subst e2 e3 e4
        exact hb'
      have hxl := hbx.length
      generalize ls[i]'hil = x at *
      obtain rfl : x.length = m := hxl
      have hm1 : x.length ≤ 1000 := by have := HTOT.out; omega
      have hdi : decide ((i : Int) < (n0 : Int)) = true := decide_eq_true (by omega)
      have hdi2 : decide (i < n0) = true := decide_eq_true hlt
      have HBX0 := Lib.hid hbx0
      have HTT := Lib.hid htt
      have hbd := HBD.out
      have HAP := Lib.hid (append_any wr HDX.out HRL.out (by omega) q x.length dd x hbx (by omega) (HKS.out.few (by omega)))
      have HRM : Hid ((T.flatMap frame).length + (8 + x.length) ≤ 65536) := by show _ ≤ _; have := HTOT.out; omega
      have HTL : Hid (T.length + 1 ≤ 1000000) := by show _ ≤ _; have := HTOT.out; omega
      clear hbx hbx0 htt htl hbd
      by_cases hx0 : x.length = 0
      · have z1 : ((x.length : Int) != 0) = false := by simp [hx0]
        have z2 : (x.length != 0) = false := by simp [hx0]
        obtain ⟨a1, a2⟩ := app_nil D 1 x hx0
        rw [a1, a2] at HAP
        have HX0 := Lib.hid hx0
        clear a1 a2 hx0
        go_wp2_with fail
        refine HAP.out.mono ?_
        rintro e w5 ⟨rfl, hd5, hk5⟩
        have HD5 := Lib.hid hd5
        have HR5 := Lib.hid (HRL.out.kt hk5)
        have HA5 := Lib.hid (hk5.lsA HLA.out)
        have HB5 := Lib.hid (HBW.out.trans (hk5.below HBW.out.size))
        clear hd5 hk5 HAP hcell
        go_wp2_with fail
        go_roundw
        case rel => exact ⟨i + 1, T, L, D, by omega, by go_num, HKS.out, HD5.out, HR5.out, HA5.out, ⟨_, _, rfl, HLB.out⟩, by have h1 := HBD.out; have h2 := HTT.out; omega, HL1.out, HB5.out⟩
        case measure => simp [intOf]; omega
      · have hx1 : 1 ≤ x.length := by omega
        rcases ks_step (by omega) HKS.out hx1 (by omega) HRM.out with ⟨k1, k2, k3⟩ | ⟨k1, k2, k3⟩ | ⟨k1, k2, k3⟩
        · rw [k2] at HAP
          have HK3 := Lib.hid k3
          obtain ⟨hs, hh1, hh2⟩ := HLA.out.all
          obtain ⟨pt, ct, hpt, -⟩ := own_sl hh1
          subst hpt
          clear k2 k3 hx0
          subst k1
          go_wp2_with fail
          refine HAP.out.mono ?_
          rintro e w5 ⟨rfl, hd5, hk5⟩
          have HD5 := Lib.hid hd5
          have HR5 := Lib.hid (HRL.out.kt hk5)
          have HB5 := Lib.hid (HBW.out.trans (hk5.below HBW.out.size))
          have HH1 := Lib.hid (hk5.own hh1 (by decide) (by decide))
          have HH2 := Lib.hid hh2
          clear hd5 hk5 HAP hcell hh1 hh2
          have hal : Below w5.heap.size w5 (w5.alloc (.cells #[.slice q x.length dd] 33)) := Below.allocs _ _
          have HAL := Lib.hid hal
          have HNEW := Lib.hid (Cut.hdr_sl w5 (.slice q x.length dd) 33 w5.heap.size rfl)
          have HOW := Lib.hid (own_touch HH1.out (Turns.of_below (S := fun _ => False) hal) (fun _ _ h => h))
          clear hal
          go_upto_region 17 with (at_builtin; refine wpList_append_nx rfl _ _ 22 rfl (base := w.heap.size) Tryd.underlying22 Wr.infoS rfl (by omega) rfl HOW.out rfl HNEW.out (by simp [Value.oneCell']) ⟨by have := HTL.out; omega, by have := HTL.out; omega⟩ (by have := HB5.out.size; have := HAL.out.size; omega) ?_)
          intro p10 c10 x10 ho10 hg10 _ hp10
          have htg : Turns (fun k => (Value.slice pt T.length ct).ownBlock = some k) (w5.alloc (.cells #[.slice q x.length dd] 33)) x10 := Turns.grown hg10 (fun k hk => hk)
          have hD10 := (HD5.out.below HAL.out).turn htg (fun k M t fr hk hm => by
            have := own_type HOW.out k M t fr hk hm
            subst this
            exact ⟨by decide, by decide, by decide⟩)
          have hR10 : RolAt x10 rb db 1 := htg.keep (HR5.out.below HAL.out) (fun hk => by
            have := own_type HOW.out _ _ _ _ hk (HR5.out.below HAL.out)
            exact absurd this (by decide))
          have hb10 := (HB5.out.trans (HAL.out.mono HB5.out.size)).grown hg10 (by have := HB5.out.size; have := HAL.out.size; omega) (fun k hk => (HH1.out.lt k hk).1)
          have hpu := LsA.push HH1.out HH2.out HBX0.out ho10
          have HD10 := Lib.hid hD10
          have HR10 := Lib.hid hR10
          have HB10 := Lib.hid hb10
          have HPU := Lib.hid hpu
          have HTS : Hid (((T ++ [x]).flatMap frame).length = (T.flatMap frame).length + (8 + x.length) ∧ (T ++ [x]).length = T.length + 1) := ⟨tsum_snoc T x, by simp⟩
          have HX1 : Hid (1 ≤ x.length) := hx1
          clear hb10 hpu ho10 hg10 hp10 HOW HNEW HAL HH1 HH2 htg hD10 hR10
          go_wp2_with fail
          go_roundw
          case rel => exact ⟨i + 1, T ++ [x], [], appD D 1 x, by omega, by go_num, HK3.out, HD10.out, HR10.out, HPU.out, ⟨_, _, rfl, HLB.out⟩, by have h1 := HBD.out; have h2 := HTT.out; have h3 := HTS.out; have h4 := HX1.out; omega, Nat.zero_le _, HB10.out⟩
          case measure => simp [intOf]; omega
        · rw [k2] at HAP
          have HK3 := Lib.hid k3
          clear k2 k3 hx0
          subst k1
          go_wp2_with fail
          refine HAP.out.mono ?_
          rintro e w5 ⟨rfl, hd5, hk5⟩
          have HD5 := Lib.hid hd5
          have HR5 := Lib.hid (HRL.out.kt hk5)
          have HA5 := Lib.hid (hk5.lsA HLA.out)
          have HB5 := Lib.hid (HBW.out.trans (hk5.below HBW.out.size))
          have HM1 : Hid (x.length ≤ 1000) := hm1
          clear hd5 hk5 HAP hcell
          go_wp2_with fail
          go_roundw
          case rel => exact ⟨i + 1, T, x, appD D 1 x, by omega, by go_num, HK3.out, HD5.out, HR5.out, HA5.out, ⟨_, _, rfl, HBX0.out⟩, by have h1 := HBD.out; have h2 := HTT.out; omega, HM1.out, HB5.out⟩
          case measure => simp [intOf]; omega
        · rw [k2, k3] at HAP
          have z3 : ((L.length : Int) == 0) = false := by rw [beq_eq_false_iff_ne]; omega
          have z4 : (L.length == 0) = false := by rw [beq_eq_false_iff_ne]; omega
          clear k1 k2 k3 hx0
          go_wp2_with fail
          refine HAP.out.mono ?_
          rintro e w5 ⟨rfl, hd5, hk5⟩
          have HD5 := Lib.hid hd5
          have HR5 := Lib.hid (HRL.out.kt hk5)
          have HA5 := Lib.hid (hk5.lsA HLA.out)
          have HB5 := Lib.hid (HBW.out.trans (hk5.below HBW.out.size))
          clear hd5 hk5 HAP hcell
          go_wp2_with fail
          go_roundw
          case rel => exact ⟨i + 1, T, L, D, by omega, by go_num, HKS.out, HD5.out, HR5.out, HA5.out, ⟨_, _, rfl, HLB.out⟩, by have h1 := HBD.out; have h2 := HTT.out; omega, HL1.out, HB5.out⟩
          case measure => simp [intOf]; omega
    · have hin : i = n0 := by omega
      have htk : ls.take i = ls := List.take_of_length_le (by rw [HNP.out]; omega)
      have hdi : decide ((i : Int) < (n0 : Int)) = false := decide_eq_false (by omega)
      have hdi2 : decide (i < n0) = false := decide_eq_false hlt
      have hbd := HBD.out
      rw [htk] at hbd
      have HBT : Hid ((T.flatMap frame).length ≤ 9000 ∧ T.length ≤ 1000) := by show _ ∧ _; have := HTOT.out; omega
      clear htk hbd hin hlt HBD
      obtain ⟨hs, hh1, hh2⟩ := HLA.out.all
      obtain ⟨pt, ct, hpt, -⟩ := own_sl hh1
      subst hpt
      clear hh1 hh2 hs
      have hal : Below wr.heap.size wr (wr.alloc (.cells #[.int .i64 0, .int .i64 (un : Int)] 3)) := Below.allocs _ _
      have hrow := heap_alloc_last wr (.cells #[.int .i64 0, .int .i64 (un : Int)] 3)
      have hsz : (wr.alloc (.cells #[.int .i64 0, .int .i64 (un : Int)] 3)).heap.size = wr.heap.size + 1 := by simp
      have hns : Ns (wr.alloc (.cells #[.int .i64 0, .int .i64 (un : Int)] 3)) (some ⟨wr.heap.size, 0, none⟩) 2 2 [0, (un : Int)] := ns_made (us := [0, (un : Int)]) hrow (by intro x hx; simp at hx; omega) (by simp)
      have hcr := xcrash _ (HDX.out.below hal) [0, (un : Int)] _ 2 hns (fun a ha => by
        cases ha
        exact ⟨no_ints hrow, by rw [hsz]; show wr.heap.size < _; omega⟩)
      have HCR := Lib.hid hcr
      have HLW := Lib.hid (HLA.out.below hal)
      have HBX := Lib.hid (HBW.out.trans (hal.mono HBW.out.size))
      clear hal hrow hsz hns hcr HDX HRL HLA HBW
      go_upto_region 24 with fail
      go_wp2_with fail
      refine HCR.out.mono ?_
      rintro e w7 ⟨rfl, hd7, hk7⟩
      obtain ⟨y, hy1, hy2, hy3⟩ := ks_crash [0, (un : Int)] (by omega) HKS.out
      rw [hy1] at hd7
      have HYL : Hid (y.length ≤ 20000) := by show _ ≤ _; have := HBT.out; have := HL1.out; omega
      have HB7 := Lib.hid (HBX.out.trans (hk7.below HBX.out.size))
      have HL7 := Lib.hid (hk7.lsA HLW.out)
      have ho := open_any w7 (HE.out.below HB7.out HE.out.lt) hd7 (i := 1) (by omega) (few_dI _ _ _ _ (by omega) _)
      obtain ⟨o1, o2⟩ := open_up 65536 1 (by omega) y (by have := HYL.out; omega)
      have HO := Lib.hid ho
      have HO1 := Lib.hid o1
      have HO2 := Lib.hid o2
      have HY3 := Lib.hid hy3
      clear hd7 hk7 ho o1 o2 hy1 hy2 hy3 HCR HBX HLW HKS
      go_wp2_with fail
      refine HO.out.mono ?_
      rintro e w8 ⟨hd8, hk8, hs8⟩
      rw [HO1.out] at hs8
      rw [HO2.out] at hd8
      rcases hs8 with ⟨_, rb8, rfl, hr8⟩ | ⟨hc, _⟩
      rotate_left
      · exact absurd rfl hc
      have HB8 := Lib.hid (HB7.out.trans (hk8.below HB7.out.size))
      have HL8 := Lib.hid (hk8.lsA HL7.out)
      obtain ⟨z, hz⟩ : ∃ z, y.take (scan y).2 = z := ⟨_, rfl⟩
      rw [hz] at hd8
      have HZL : Hid (z.length ≤ 20000) := by show _ ≤ _; rw [← hz, List.length_take]; have := HYL.out; omega
      have hsz : scan z = scan y := by rw [← hz]; exact scan_take y
      have hy3 := HY3.out
      rw [← hsz] at hy3
      have HY3 := Lib.hid hy3
      have HD8 := Lib.hid hd8
      have HR8 := Lib.hid hr8
      have hbo := bodies_any w8 (HE.out.below HB8.out HE.out.lt) hd8 hr8 (by omega)
      rw [fD_dI _ _ _ _ (by omega)] at hbo
      unfold BodP at hbo
      rw [show (fS z).now = z from rfl] at hbo
      have HBO := Lib.hid hbo
      clear hd8 hk8 hr8 hbo HO HO1 HO2 HL7 hz hsz hy3
      go_wp2_with fail
      refine HBO.out.mono ?_
      rintro e w9 ⟨p9, c9, rfl, hl9, hb9⟩
      have HB9 := Lib.hid (HB8.out.trans (hb9.mono HB8.out.size))
      have HL9 := Lib.hid (HL8.out.below hb9)
      have HD9 := Lib.hid (HD8.out.below hb9)
      have HR9 := Lib.hid (HR8.out.below hb9)
      have HS9 := Lib.hid hl9
      clear hl9 hb9 HBO HD8 HR8 HL8
      obtain ⟨S, hS⟩ : ∃ S, (scan z).1 = S := ⟨_, rfl⟩
      rw [hS] at HS9 HY3 ⊢
      clear hS
      obtain ⟨_, _, e9, hp9⟩ := HS9.out.ls.sl
      cases e9
      have HPT := Lib.hid hp9
      obtain ⟨_, _, et, hpt⟩ := HL9.out.sl HB9.out
      cases et
      have HTO := Lib.hid hpt
      clear hp9 hpt
      have htn := HBT.out.2
      have hwr : IntKind.i64.wrap ((T.length : Int) + 1) = ((T.length + 1 : Nat) : Int) := by rw [IntWalk.i64_in _ (by omega)]; omega
      have hne := len_ne T.length
      have hne2 := len_ne2 T.length
      rcases HY3.out with hy | ⟨hL, hy⟩
      · subst hy
        clear HY3
        obtain ⟨N1, hN1⟩ : ∃ N1, S.length + 1 = N1 := ⟨_, rfl⟩
        rw [hN1] at hwr hne hne2
        clear hN1
        go_upto_region 29 with fail
        refine wp_region_eager [(0, true), (1, true), (2, true), (3, true), (4, true), (5, true), (6, true), (7, true), (8, true), (9, true), (10, true), (11, true), (12, true), (13, true), (14, true), (15, true), (16, true), (17, true), (18, true), (19, true), (20, true), (21, true)] (by kernel_rfl) (by kernel_rfl) (eagerOpen rfl ?_)
        have hy0 : Below w9.heap.size w9 w9.drew := below_drew1 _ _
        repeat (first
          | (first | (apply wpEager_take; (· rfl); (· (intro w' hb'; go_simp; try with_reducible rfl)); (try simp only [Act.put, List.setIfInBounds_toArray, List.set_cons_zero, List.set_cons_succ]); (try refine eagerOpen rfl ?_)) | (refine wpEager_skip (by rfl) ?_; (try simp only [Act.put, List.setIfInBounds_toArray, List.set_cons_zero, List.set_cons_succ]); (try refine eagerOpen rfl ?_)) | (refine wpEager_off (by rfl) ?_; (try simp only [Act.put, List.setIfInBounds_toArray, List.set_cons_zero, List.set_cons_succ]); (try refine eagerOpen rfl ?_))))
        refine eagerEnd ?_
        have HBJ := Lib.hid (HB9.out.trans (hy0.mono HB9.out.size))
        have HDJ := Lib.hid (HD9.out.below hy0)
        have HRJ := Lib.hid (HR9.out.below hy0)
        have hpj := HTO.out.touch (Turns.of_below (S := fun _ => False) hy0) (fun _ _ h => h)
        have hpk := HPT.out.touch (Turns.of_below (S := fun _ => False) hy0) (fun _ _ h => h)
        clear hy0 hwr hne hne2
        skip
        -- F.Same(l, told) && s.Append([]byte{1}) == OK && alive()
        have HSM := Lib.hid (Frm.same_any _ _ _ _ _ _ _ _ _ (hpk) (hpj))
        go_wp2_with fail
        refine HSM.out.mono ?_
        rintro e w11 ⟨rfl, hb11⟩
        rw [beq_self_eq_true]
        have HBK := Lib.hid ((HBJ.out).trans (hb11.mono (HBJ.out).size))
        have hal2 : Below w11.heap.size w11 (w11.alloc (.cells #[.int .u8 1] 5)) := Below.allocs _ _
        have HBL := Lib.hid (HBK.out.trans (hal2.mono HBK.out.size))
        have hbs2 : Bs (w11.alloc (.cells #[.int .u8 1] 5)) (some ⟨w11.heap.size, 0, none⟩) 1 1 [1] := Bs.made _ _ _ _ _ _ rfl rfl (by omega)
        have hap := append_any _ ((HDJ.out.below hb11).below hal2) ((HRJ.out.below hb11).below hal2) (by omega) _ _ _ [1] hbs2 (by omega) (few_dI _ _ _ _ (by omega) _)
        obtain ⟨p1, p2⟩ := app_zero 65536 1 (by omega) z [1] (by decide) (by have := HZL.out; show z.length + (8 + 1) ≤ _; omega)
        rw [p1, p2] at hap
        have HAP := Lib.hid hap
        clear hap p1 p2 hbs2 hal2 hb11 HSM
        go_wp2_with fail
        refine HAP.out.mono ?_
        rintro e w12 ⟨rfl, hd12, hk12⟩
        have HBM := Lib.hid (HBL.out.trans (hk12.below HBL.out.size))
        clear hd12 hk12 HAP
        go_wp2_with fail
        refine (alive20_any _ (HE.out.below (HBM.out) HE.out.lt)).mono ?_
        rintro e w99 ⟨rfl, hb99⟩
        have HB99 : Hid (Below w.heap.size w w99) := Below.trans (HBM.out) (hb99.mono (Below.size (HBM.out)))
        clear hb99
        go_wp2_with fail
        go_ret
        exact ⟨rfl, HB99.out⟩
      · subst hy
        clear HY3
        obtain ⟨N1, hN1⟩ : ∃ N1, (T ++ [L]).length = N1 := ⟨_, rfl⟩
        have hN2 : T.length + 1 = N1 := by rw [← hN1]; simp
        have hq1 : (((N1 : Nat) : Int) == ((N1 : Nat) : Int)) = true := by rw [beq_iff_eq]
        have hq2 : (N1 == N1) = true := by rw [beq_iff_eq]
        have hl1 : decide ((0 : Int) < (L.length : Int)) = true := decide_eq_true (by omega)
        have hl2 : decide (0 < L.length) = true := decide_eq_true (by omega)
        rw [hN2] at hwr
        have hpt0 := HPT.out
        rw [hN1] at hpt0 ⊢
        have HPT := Lib.hid hpt0
        have hj : T.length < (T ++ [L]).length := by simp
        have hgl : (T ++ [L])[T.length]'hj = L := by simp
        obtain ⟨b9, o9, hpb9⟩ := hpt0.addr (by omega)
        subst hpb9
        obtain ⟨q5, m5, d5, hcl, hbl5⟩ := hpt0.cell _ rfl T.length hj
        rw [add_none] at hcl
        rw [hgl] at hbl5
        obtain rfl : L.length = m5 := hbl5.length
        have HCL : Hid (∀ w', Below w9.heap.size w9 w' → w'.cell? ⟨b9, o9 + T.length, none⟩ = some (.slice q5 L.length d5)) := fun w' hb => cell_below hcl hb
        have HC1 : Hid (∀ w', Below w9.heap.size w9 w' → (convert 33 9 (.slice q5 L.length d5)).run Tryd.prog w' = .ok (.string (S L)) w') := fun w' hb =>
          run_conv (P := Tryd.prog) 33 9 5 Tryd.underlying33 Tryd.underlying5 Tryd.underlying9 (hbl5.below hb)
        have HC2 : Hid (∀ w', Below w9.heap.size w9 w' → (convert 33 9 (.slice ql L.length kl)).run Tryd.prog w' = .ok (.string (S L)) w') := fun w' hb =>
          run_conv (P := Tryd.prog) 33 9 5 Tryd.underlying33 Tryd.underlying5 Tryd.underlying9 ((HLB.out.below HB9.out).below hb)
        have hidx : T.length < N1 := by omega
        clear hj hgl hbl5 hcl hN1 hN2 hne hne2 hL hpt0
        go_upto_region 29 with fail
        refine wp_region_eager [(0, true), (1, true), (2, true), (3, true), (4, true), (5, true), (6, true), (7, true), (8, true), (9, true), (10, true), (11, true), (12, true), (13, true), (14, true), (15, true), (16, true), (17, true), (18, true), (19, true), (20, true), (21, true)] (by kernel_rfl) (by kernel_rfl) (eagerOpen rfl ?_)
        have hy0 : Below w9.heap.size w9 w9.drew := below_drew1 _ _
        repeat (first
          | (first | (apply wpEager_take; (· rfl); (· (intro w' hb'; go_simp; try with_reducible rfl)); (try simp only [Act.put, List.setIfInBounds_toArray, List.set_cons_zero, List.set_cons_succ]); (try refine eagerOpen rfl ?_)) | (refine wpEager_skip (by rfl) ?_; (try simp only [Act.put, List.setIfInBounds_toArray, List.set_cons_zero, List.set_cons_succ]); (try refine eagerOpen rfl ?_)) | (refine wpEager_off (by rfl) ?_; (try simp only [Act.put, List.setIfInBounds_toArray, List.set_cons_zero, List.set_cons_succ]); (try refine eagerOpen rfl ?_)))
          | (apply wpEager_take; (· rfl); (· (intro w' hb'; have hk' := (fun w' hb => HCL.out w' hb) w' hb'; go_split_ands; go_simp; try with_reducible rfl)); (try simp only [Act.put, List.setIfInBounds_toArray, List.set_cons_zero, List.set_cons_succ]); (try refine eagerOpen rfl ?_))
          | (apply wpEager_take; (· rfl); (· (intro w' hb'; have hk' := (fun w' hb => HC1.out w' hb) w' hb'; go_split_ands; go_simp; try with_reducible rfl)); (try simp only [Act.put, List.setIfInBounds_toArray, List.set_cons_zero, List.set_cons_succ]); (try refine eagerOpen rfl ?_))
          | (apply wpEager_take; (· rfl); (· (intro w' hb'; have hk' := (fun w' hb => HC2.out w' hb) w' hb'; go_split_ands; go_simp; try with_reducible rfl)); (try simp only [Act.put, List.setIfInBounds_toArray, List.set_cons_zero, List.set_cons_succ]); (try refine eagerOpen rfl ?_)))
        refine eagerEnd ?_
        have HBJ := Lib.hid (HB9.out.trans (hy0.mono HB9.out.size))
        have HDJ := Lib.hid (HD9.out.below hy0)
        have HRJ := Lib.hid (HR9.out.below hy0)
        have hpj := HTO.out.touch (Turns.of_below (S := fun _ => False) hy0) (fun _ _ h => h)
        have hpk := pts_take (HPT.out.touch (Turns.of_below (S := fun _ => False) hy0) (fun _ _ h => h)) T.length (by omega)
        rw [drop_last] at hpk
        have hct := cutL HPT.out T.length (by omega)
        clear hy0 hwr hq1 hq2 hl1 hl2 HCL HC1 HC2
        skip
        -- F.Same(l, told) && s.Append([]byte{1}) == OK && alive()
        have HSM := Lib.hid (Frm.same_any _ _ _ _ _ _ _ _ _ (hpk) (hpj))
        go_wp2_with fail
        refine HSM.out.mono ?_
        rintro e w11 ⟨rfl, hb11⟩
        rw [beq_self_eq_true]
        have HBK := Lib.hid ((HBJ.out).trans (hb11.mono (HBJ.out).size))
        have hal2 : Below w11.heap.size w11 (w11.alloc (.cells #[.int .u8 1] 5)) := Below.allocs _ _
        have HBL := Lib.hid (HBK.out.trans (hal2.mono HBK.out.size))
        have hbs2 : Bs (w11.alloc (.cells #[.int .u8 1] 5)) (some ⟨w11.heap.size, 0, none⟩) 1 1 [1] := Bs.made _ _ _ _ _ _ rfl rfl (by omega)
        have hap := append_any _ ((HDJ.out.below hb11).below hal2) ((HRJ.out.below hb11).below hal2) (by omega) _ _ _ [1] hbs2 (by omega) (few_dI _ _ _ _ (by omega) _)
        obtain ⟨p1, p2⟩ := app_zero 65536 1 (by omega) z [1] (by decide) (by have := HZL.out; show z.length + (8 + 1) ≤ _; omega)
        rw [p1, p2] at hap
        have HAP := Lib.hid hap
        clear hap p1 p2 hbs2 hal2 hb11 HSM
        go_wp2_with fail
        refine HAP.out.mono ?_
        rintro e w12 ⟨rfl, hd12, hk12⟩
        have HBM := Lib.hid (HBL.out.trans (hk12.below HBL.out.size))
        clear hd12 hk12 HAP
        go_wp2_with fail
        refine (alive20_any _ (HE.out.below (HBM.out) HE.out.lt)).mono ?_
        rintro e w99 ⟨rfl, hb99⟩
        have HB99 : Hid (Below w.heap.size w w99) := Below.trans (HBM.out) (hb99.mono (Below.size (HBM.out)))
        clear hb99
        go_wp2_with fail
        go_ret
        exact ⟨rfl, HB99.out⟩
end Go.Proofs.YtkacmgfehmjijaaDoor.Rol

namespace Go.Proofs.YtkacmgfehmjijaaDoor.bulks
open Go.Mir

theorem one_le {H : Type} (d : DataW H) : 1 ≤ Rows.uptoBulk d := by
  cases d with
  | lit l => cases l <;> simp [Rows.uptoBulk]
  | nil => simp [Rows.uptoBulk]
  | ptr d => simp [Rows.uptoBulk]
  | slice elems spare => simp [Rows.uptoBulk]
  | agg parts => simp [Rows.uptoBulk]
  | iface t d => simp [Rows.uptoBulk]
  | map entries => simp [Rows.uptoBulk]
  | held h => simp [Rows.uptoBulk]
theorem bulkAll_cons {H : Type} (d : DataW H) (r : List (DataW H)) : Rows.uptoBulkAll (d :: r) = Rows.uptoBulk d + Rows.uptoBulkAll r := by simp only [Rows.uptoBulkAll]
theorem bulkAll_nil {H : Type} : Rows.uptoBulkAll ([] : List (DataW H)) = 0 := by simp only [Rows.uptoBulkAll]
theorem length_le {H : Type} (l : List (DataW H)) : l.length ≤ Rows.uptoBulkAll l := by
  induction l with
  | nil => simp [Rows.uptoBulkAll]
  | cons x r ih => have := one_le x; simp only [Rows.uptoBulkAll, List.length_cons]; omega
theorem slice_eq {H : Type} (elems spare : List (DataW H)) : Rows.uptoBulk (.slice elems spare) = Rows.uptoBulkAll elems + Rows.uptoBulkAll spare + 1 := by
  simp only [Rows.uptoBulk]
theorem agg_eq {H : Type} (ds : List (DataW H)) : Rows.uptoBulk (.agg ds) = Rows.uptoBulkAll ds + 1 := by
  simp only [Rows.uptoBulk]
theorem dlen_le {H : Type} (d : DataW H) : dlen d + 1 ≤ Rows.uptoBulk d := by
  cases d with
  | slice elems spare => have := length_le elems; rw [slice_eq]; simp only [dlen]; omega
  | _ => exact one_le _
theorem dlens_le {H : Type} (l : List (DataW H)) : (l.map dlen).sum + l.length ≤ Rows.uptoBulkAll l := by
  induction l with
  | nil => simp [Rows.uptoBulkAll]
  | cons x r ih => have := dlen_le x; simp only [Rows.uptoBulkAll, List.length_cons, List.map_cons, List.sum_cons]; omega
theorem bound {H : Type} {l : List (DataW H)} (hk : Rows.uptoSmall H l = true) : Rows.uptoBulkAll l ≤ 1048576 := of_decide_eq_true hk
end Go.Proofs.YtkacmgfehmjijaaDoor.bulks
