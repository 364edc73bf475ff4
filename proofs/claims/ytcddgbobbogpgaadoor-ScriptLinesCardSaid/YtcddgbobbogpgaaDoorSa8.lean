/- PARTS, JOINED: SCRIPTS: ScriptLines. Conditions: internal/bytealg.MaxLen holds an int. A BLOCK THAT CAME IN. Conditions: none. EVENTS that came in. Conditions: none. -/
import Derived.Test.YtcddgbobbogpgaaDoorSa1
import Derived.Test.YtcddgbobbogpgaaDoorSa2
import Derived.Test.YtcddgbobbogpgaaDoorSa3
import Derived.Test.YtcddgbobbogpgaaDoorSa4
import Derived.Test.YtcddgbobbogpgaaDoorSa5
import Derived.Test.YtcddgbobbogpgaaDoorSa6
import Derived.Test.YtcddgbobbogpgaaDoorSa7
import Derived.Test.YtcddgbobbogpgaaDoorRows
import Derived.Deep.Strs
namespace Go.Proofs.YtcddgbobbogpgaaDoor.Scr
open Go.RowKit Go.Mir Go.Mir.Hx Go.Mir.Parts HexW Rpl
open Go.Lib (join joinTail)

theorem words_short2 {e : Ev} (hg : Good e) (hw : e.Wf) : ∀ x ∈ wordsE e, x.length ≤ 2 * e.b.length + 64 := fun x hx => by
  rcases List.mem_cons.1 hx with rfl | hx
  · have := k6_short e.k.toNat; omega
  · unfold restE at hx
    split at hx
    · rw [List.mem_singleton] at hx; rw [hx]; have := textT_len e.b; omega
    · split at hx
      · rcases List.mem_cons.1 hx with rfl | hx
        · have := idT_len _ hw.h; omega
        · rcases List.mem_cons.1 hx with rfl | hx
          · have := idT_len _ hw.p; omega
          · obtain ⟨y, hy, rfl⟩ := List.mem_map.1 hx
            have := idT_len _ (hw.tx y hy); omega
      · split at hx
        · rename_i h56
          obtain ⟨y, hy, rfl⟩ := List.mem_map.1 hx
          have h1 := hg.2.2 h56 y hy
          unfold okN at h1
          have := dec_len y.toNat (by omega); omega
        · rw [List.mem_singleton] at hx; rw [hx]; have := idT_len _ hw.id; omega
theorem lineE_short {e : Ev} (hw : e.Wf) (hb : e.b.length ≤ 3000) (ht : e.tx.length ≤ 60) : (lineE e).length ≤ 900000 := by
  by_cases hg : Good e
  · rw [(line_good hg).1]
    refine Nat.le_trans (join_le _ (2 * e.b.length + 64) (words_short2 hg hw)) ?_
    have h1 : (wordsE e).length ≤ 65 := by
      have := rest_len e
      unfold wordsE
      rw [List.length_cons]
      omega
    exact Nat.le_trans (Nat.mul_le_mul h1 (show 2 * e.b.length + 64 + 1 ≤ 6065 by omega)) (by decide)
  · rw [(line_bad hg).1]; exact Nat.zero_le _
theorem tail_ge : ∀ r : List (List UInt8), r.length ≤ ((r.map (fun x => [32] ++ x)).flatten).length ∧ ∀ x ∈ r, x.length ≤ ((r.map (fun x => [32] ++ x)).flatten).length
  | [] => ⟨Nat.le_refl _, fun x hx => nomatch hx⟩
  | y :: r => by
    obtain ⟨h1, h2⟩ := tail_ge r
    simp only [List.map_cons, List.flatten_cons, List.length_append, List.length_cons, List.length_nil] at *
    refine ⟨by omega, fun x hx => ?_⟩
    rcases List.mem_cons.1 hx with rfl | hx
    · omega
    · have := h2 x hx; omega
theorem join_ge (a : List UInt8) (r : List (List UInt8)) : r.length ≤ (join (a :: r) [32]).length ∧ ∀ x ∈ r, x.length ≤ (join (a :: r) [32]).length := by
  obtain ⟨h1, h2⟩ := tail_ge r
  rw [Go.Lib.join_cons, List.length_append]
  unfold joinTail
  exact ⟨by omega, fun x hx => by have := h2 x hx; omega⟩
theorem text_ge (b : List UInt8) : b.length ≤ (textL b).length := by
  unfold textL
  split
  · rename_i h; rw [h]; exact Nat.zero_le _
  · rw [pairsL_length]; omega
theorem lineE_ge {e : Ev} (hg : Good e) : e.b.length ≤ (lineE e).length ∧ e.tx.length ≤ (lineE e).length := by
  rw [(line_good hg).1]
  obtain ⟨h1, h2⟩ := join_ge (K6.getD e.k.toNat []) (restE e)
  have hw : wordsE e = K6.getD e.k.toNat [] :: restE e := rfl
  rw [hw]
  by_cases k1 : e.k = 1
  · have hr : restE e = [textL e.b] := by unfold restE; rw [if_pos k1]
    have ht : e.tx = [] := by rw [hg.2.1]; unfold only; rw [if_pos k1]
    refine ⟨Nat.le_trans (text_ge e.b) (h2 _ (by rw [hr]; simp)), by rw [ht]; exact Nat.zero_le _⟩
  · by_cases k2 : e.k = 2
    · have hr : restE e = idText e.h :: idText e.p :: e.tx.map idText := by unfold restE; rw [if_neg k1, if_pos k2]
      have hb : e.b = [] := by rw [hg.2.1]; unfold only; rw [if_neg k1, if_pos k2]
      refine ⟨by rw [hb]; exact Nat.zero_le _, Nat.le_trans ?_ h1⟩
      rw [hr]; simp only [List.length_cons, List.length_map]; omega
    · have hb : e.b = [] ∧ e.tx = [] := by
        rw [hg.2.1]; unfold only; rw [if_neg k1, if_neg k2]
        split
        · exact ⟨rfl, rfl⟩
        · split
          · exact ⟨rfl, rfl⟩
          · exact ⟨rfl, rfl⟩
      rw [hb.1, hb.2]
      exact ⟨Nat.zero_le _, Nat.zero_le _⟩
set_option maxRecDepth 100000 in
set_option maxHeartbeats 3200000 in
theorem law_slines (e : Ev) (pb : Option Addr) (cb : Nat) (q : Option Addr) (c : Nat) (s : List UInt8) (w : World) (hm : MaxL w) (h : EvAt w e pb cb q c) :
    Calls Tryd.prog 3 #[.agg (evA e pb cb q c), .string (S s)] w fun x w' => x = .returned (.bool true) ∧ Below w.heap.size w w' := by
  have hz := zeroE
  have hzf := zeroF
  have HM := Lib.hid hm
  have hal := Below.allocs w (.cells (evA e pb cb q c) 31)
  have hr := heap_alloc_last w (.cells (evA e pb cb q c) 31)
  have HB1 := Lib.hid hal
  have HWF := Lib.hid h.wf
  have HAT := Lib.hid (h.below hal)
  have HZS : Hid (zE.size = 103) := zE_size
  have HC := ev_row h.wf hr
  have hkb := HC.b
  have hkt := HC.tx
  obtain ⟨A, hA⟩ : ∃ A, A = evA e pb cb q c := ⟨_, rfl⟩
  have HAS : Hid (A.size = 103) := by show _ = _; rw [hA]; exact evA_size h.wf pb cb q c
  have HAE := Lib.hid hA
  rw [← hA] at hr HB1 HAT hkb hkt ⊢
  have HR1 := Lib.hid hr
  clear h hal hr hA HC hm
  by_cases b1 : 3000 < e.b.length
  · have d1 : decide ((3000 : Int) < (e.b.length : Int)) = true := decide_eq_true (by omega)
    have d1' : decide (3000 < e.b.length) = true := decide_eq_true b1
    skip
    go_enter Tryd.func3, Tryd.ntmps3
    go_upto_region 1 with fail
    generalize w.alloc (.cells A 31) = w1 at *
    go_wp2_with fail
    refine (alive39_any w1 (HM.out.below HB1.out)).mono ?_
    rintro x w2 ⟨rfl, hb⟩
    go_wp2_with fail
    go_ret
    exact ⟨rfl, HB1.out.trans (hb.mono HB1.out.size)⟩
  have d1 : decide ((3000 : Int) < (e.b.length : Int)) = false := decide_eq_false (by omega)
  have d1' : decide (3000 < e.b.length) = false := decide_eq_false b1
  by_cases b2 : 60 < e.tx.length
  · have d2 : decide ((60 : Int) < (e.tx.length : Int)) = true := decide_eq_true (by omega)
    have d2' : decide (60 < e.tx.length) = true := decide_eq_true b2
    skip
    go_enter Tryd.func3, Tryd.ntmps3
    go_upto_region 1 with fail
    generalize w.alloc (.cells A 31) = w1 at *
    go_wp2_with fail
    refine (alive39_any w1 (HM.out.below HB1.out)).mono ?_
    rintro x w2 ⟨rfl, hb⟩
    go_wp2_with fail
    go_ret
    exact ⟨rfl, HB1.out.trans (hb.mono HB1.out.size)⟩
  have d2 : decide ((60 : Int) < (e.tx.length : Int)) = false := decide_eq_false (by omega)
  have d2' : decide (60 < e.tx.length) = false := decide_eq_false b2
  by_cases b3 : 3000 < s.length
  · have d3 : decide ((3000 : Int) < (s.length : Int)) = true := decide_eq_true (by omega)
    have d3' : decide (3000 < s.length) = true := decide_eq_true b3
    skip
    go_enter Tryd.func3, Tryd.ntmps3
    go_upto_region 1 with fail
    generalize w.alloc (.cells A 31) = w1 at *
    go_wp2_with fail
    refine (alive39_any w1 (HM.out.below HB1.out)).mono ?_
    rintro x w2 ⟨rfl, hb⟩
    go_wp2_with fail
    go_ret
    exact ⟨rfl, HB1.out.trans (hb.mono HB1.out.size)⟩
  have d3 : decide ((3000 : Int) < (s.length : Int)) = false := decide_eq_false (by omega)
  have d3' : decide (3000 < s.length) = false := decide_eq_false b3
  have HS1 := Lib.hid (lineE_short HWF.out (by omega) (by omega))
  have HS2 : Hid (e.b.length ≤ 100000) := by show _ ≤ _; omega
  have HS3 : Hid (e.tx.length ≤ 100000) := by show _ ≤ _; omega
  have HS4 : Hid (s.length ≤ 3000) := by show _ ≤ _; omega
  clear b1 b2 b3
  go_enter Tryd.func3, Tryd.ntmps3
  go_upto_region 1 with fail
  generalize w.alloc (.cells A 31) = w1 at *
  have HLN := Lib.hid (line_any e pb cb q c w1 HAT.out HS2.out HS3.out)
  rw [← HAE.out] at HLN
  go_wp2_with (refine wpList_load_row rfl 31 _ rfl w.heap.size rfl 31 A (0, 0) _ HR1.out Tryd.underlying31 rfl (infoE _ HAS.out) ?_)
  refine HLN.out.mono ?_
  rintro x w2 ⟨rfl, hb2⟩
  have HR2 := Lib.hid (Below.keepOld hb2 HR1.out)
  have HB2 := Lib.hid (HB1.out.trans (hb2.mono HB1.out.size))
  have HAT2 := Lib.hid (HAT.out.below hb2)
  have HPL := Lib.hid (plain_any (e := e) (pb := pb) (cb := cb) (q := q) (c := c) w2 HWF.out)
  rw [← HAE.out] at HPL
  clear hb2 HLN HR1 HB1 HAT hkb hkt d1 d2 d3 d1' d2' d3'
  go_wp2_with (refine wpList_load_row rfl 31 _ rfl w.heap.size rfl 31 A (0, 0) _ HR2.out Tryd.underlying31 rfl (infoE _ HAS.out) ?_)
  refine HPL.out.mono ?_
  rintro x w3 ⟨rfl, hb3⟩
  have HR3 := Lib.hid (Below.keepOld hb3 HR2.out)
  have HB3 := Lib.hid (HB2.out.trans (hb3.mono HB2.out.size))
  have HAT3 := Lib.hid (HAT2.out.below hb3)
  have HLN := Lib.hid (rline_any e pb cb q c w3 HAT3.out HS2.out HS3.out)
  rw [← HAE.out] at HLN
  clear hb3 HPL HR2 HB2 HAT2
  go_wp2_with fail
  refine HLN.out.mono ?_
  rintro x w4 ⟨rfl, hb4⟩
  have HR4 := Lib.hid (Below.keepOld hb4 HR3.out)
  have HB4 := Lib.hid (HB3.out.trans (hb4.mono HB3.out.size))
  have HAT4 := Lib.hid (HAT3.out.below hb4)
  clear hb4 HLN HR3 HB3 HAT3
  by_cases hg : Good e
  · have HGD := Lib.hid hg
    have HRL := Lib.hid (read_line hg HWF.out)
    rw [decide_eq_true hg]
    clear hg
    generalize lineE e = le at *
    have hrd := read_any le w4 HS1.out (HM.out.below HB4.out)
    rw [HRL.out] at hrd
    have HRD := Lib.hid hrd
    clear hrd
    go_wp2_with fail
    refine HRD.out.mono ?_
    rintro x w5 ⟨pb2, cb2, q2, c2, rfl, hat, hb5⟩
    simp only [Option.getD_some, Option.isSome_some]
    have HR5 := Lib.hid (Below.keepOld hb5 HR4.out)
    have HB5 := Lib.hid (HB4.out.trans (hb5.mono HB4.out.size))
    have HAT5 := Lib.hid (HAT4.out.below hb5)
    obtain ⟨A2, hA2⟩ : ∃ A2, A2 = evA e pb2 cb2 q2 c2 := ⟨_, rfl⟩
    have HAS2 : Hid (A2.size = 103) := by show _ = _; rw [hA2]; exact evA_size HWF.out _ _ _ _
    have HAO2 : Hid (A2.all (·.oneCell') = true) := by show _ = _; rw [hA2]; exact evA_one _ _ _ _ _
    have HAE2 := Lib.hid hA2
    rw [← hA2]
    have hbx := box_below w5 zE A2 31
    have HR6 := Lib.hid (Below.keepOld hbx HR5.out)
    have HB6 := Lib.hid (HB5.out.trans (hbx.mono HB5.out.size))
    have HAT6 := Lib.hid (HAT5.out.below hbx)
    have HX6 : Hid (EvAt _ e pb2 cb2 q2 c2) := hat.below hbx
    have HQ6 := Lib.hid (setRow_heap _ _ _ A2 _ _ (heap_alloc_last w5 (.cells zE 31)))
    clear hb5 hat hA2 hbx HRD HR5 HB5 HAT5 HR4 HB4 HAT4 HRL
    go_upto_region 9 with (refine wpList_store_row rfl 31 _ _ rfl w5.heap.size A2 rfl rfl 31 zE (heap_alloc_last _ _) (infoE _ HAS2.out) (by rw [HAS2.out]; exact HZS.out) HAO2.out ?_)
    generalize (w5.alloc (.cells zE 31)).setRow w5.heap.size A2 = w6 at *
    generalize w5.heap.size = g9 at *
    have HRG := Lib.hid (fun w' (hb : Below w6.heap.size w6 w') => row_rangeS (Below.keepOld hb HR6.out))
    have HRH := Lib.hid (fun w' (hb : Below w6.heap.size w6 w') => row_rangeS (Below.keepOld hb HQ6.out))
    have HP2 := Lib.hid (fun (y : World) => plain_any (e := e) (pb := pb2) (cb := cb2) (q := q2) (c := c2) y HWF.out)
    have HP1 := Lib.hid (fun (y : World) => plain_any (e := e) (pb := pb) (cb := cb) (q := q) (c := c) y HWF.out)
    have HSM := Lib.hid (fun (y : World) (hy : Below w6.heap.size w6 y) => rsame_any y (HX6.out.below hy) (HAT6.out.below hy))
    rw [← HAE2.out] at HP2 HSM
    rw [← HAE.out] at HP1 HSM
    rw [decide_eq_true (rfl : e = e)] at HSM
    refine wp_region_eager [(0, true), (1, true), (2, true), (3, true), (5, true), (4, false), (6, false), (7, false), (8, true), (9, true)] (by kernel_rfl) (by kernel_rfl) (eagerOpen rfl ?_)
    have hy0 : Below w6.heap.size w6 w6.drew := below_drew1 _ _
    repeat (first
      | ((with_reducible refine eagerLoadAt 9 ?_); refine wpEager_load (by rfl) 31 _ rfl g9 0 rfl A2 _ (fun w' hb => HRH.out w' hb) Tryd.underlying31 rfl (infoE _ HAS2.out) ?_; (try simp only [Act.put, List.setIfInBounds_toArray, List.set_cons_zero, List.set_cons_succ]); (try refine eagerOpen rfl ?_))
      | ((with_reducible refine eagerLoadAt 2 ?_); refine wpEager_load (by rfl) 31 _ rfl w.heap.size 0 rfl A _ (fun w' hb => HRG.out w' hb) Tryd.underlying31 rfl (infoE _ HAS.out) ?_; (try simp only [Act.put, List.setIfInBounds_toArray, List.set_cons_zero, List.set_cons_succ]); (try refine eagerOpen rfl ?_))
      | (first | (apply wpEager_take; (· rfl); (· (intro w' hb'; go_simp; try with_reducible rfl)); (try simp only [Act.put, List.setIfInBounds_toArray, List.set_cons_zero, List.set_cons_succ]); (try refine eagerOpen rfl ?_)) | (refine wpEager_skip (by rfl) ?_; (try simp only [Act.put, List.setIfInBounds_toArray, List.set_cons_zero, List.set_cons_succ]); (try refine eagerOpen rfl ?_)) | (refine wpEager_off (by rfl) ?_; (try simp only [Act.put, List.setIfInBounds_toArray, List.set_cons_zero, List.set_cons_succ]); (try refine eagerOpen rfl ?_))))
    (refine wpEager_op (by rfl) (fun K hK => ?_); go_simp; (refine (HP2.out _).mono ?_; rintro x y1 ⟨rfl, hb⟩; have hy1 := hy0.trans hb; clear hb); refine Shut.out hK _ _ (by assumption) ?_; clear hK K; (try simp only [Act.put, List.setIfInBounds_toArray, List.set_cons_zero, List.set_cons_succ]); (try refine eagerOpen rfl ?_))
    (refine wpEager_op (by rfl) (fun K hK => ?_); go_simp; (refine (HP1.out _).mono ?_; rintro x y2 ⟨rfl, hb⟩; have hy2 := hy1.trans (hb.mono hy1.size); clear hb); refine Shut.out hK _ _ (by assumption) ?_; clear hK K; (try simp only [Act.put, List.setIfInBounds_toArray, List.set_cons_zero, List.set_cons_succ]); (try refine eagerOpen rfl ?_))
    (refine wpEager_op (by rfl) (fun K hK => ?_); go_simp; (refine (HSM.out _ hy2).mono ?_; rintro x y3 ⟨rfl, hb⟩; have hy3 := hy2.trans (hb.mono hy2.size); clear hb); refine Shut.out hK _ _ (by assumption) ?_; clear hK K; (try simp only [Act.put, List.setIfInBounds_toArray, List.set_cons_zero, List.set_cons_succ]); (try refine eagerOpen rfl ?_))
    repeat (first | (apply wpEager_take; (· rfl); (· (intro w' hb'; go_simp; try with_reducible rfl)); (try simp only [Act.put, List.setIfInBounds_toArray, List.set_cons_zero, List.set_cons_succ]); (try refine eagerOpen rfl ?_)) | (refine wpEager_skip (by rfl) ?_; (try simp only [Act.put, List.setIfInBounds_toArray, List.set_cons_zero, List.set_cons_succ]); (try refine eagerOpen rfl ?_)) | (refine wpEager_off (by rfl) ?_; (try simp only [Act.put, List.setIfInBounds_toArray, List.set_cons_zero, List.set_cons_succ]); (try refine eagerOpen rfl ?_)))
    refine eagerEnd ?_
    have HB9 := Lib.hid (HB6.out.trans (hy3.mono HB6.out.size))
    clear hy0 hy1 hy2 hy3 HP1 HP2 HSM HRG HRH HQ6 HX6 HAT6 HR6 HB6
    generalize w6.heap.size = g6 at *
    obtain ⟨wB, hwB⟩ : ∃ wB, wB = y3 := ⟨_, rfl⟩
    subst hwB
    skip
    -- behind the first half: HB9 : Below w.heap.size w wB
    have HRD := Lib.hid (read_any s wB (by have := HS4.out; omega) (HM.out.below HB9.out))
    go_wp2_with fail
    refine HRD.out.mono ?_
    rintro x v1 ⟨pb3, cb3, q3, c3, rfl, hat, hb1⟩
    obtain ⟨R, hR⟩ : ∃ R, (readE s).getD (Ev.zero 0) = R := ⟨_, rfl⟩
    obtain ⟨SO, hSO⟩ : ∃ SO, (readE s).isSome = SO := ⟨_, rfl⟩
    rw [hR] at hat
    have HX1 := Lib.hid hat
    have HZ1 := Lib.hid (HB9.out.trans (hb1.mono HB9.out.size))
    have HRR := Lib.hid hR
    have HSO := Lib.hid hSO
    rw [hR, hSO]
    obtain ⟨A3, hA3⟩ : ∃ A3, A3 = evA R pb3 cb3 q3 c3 := ⟨_, rfl⟩
    have HAS3 : Hid (A3.size = 103) := by show _ = _; rw [hA3]; exact evA_size HX1.out.wf _ _ _ _
    have HAO3 : Hid (A3.all (·.oneCell') = true) := by show _ = _; rw [hA3]; exact evA_one _ _ _ _ _
    have HAE3 := Lib.hid hA3
    rw [← hA3]
    have hbx := box_below v1 zE A3 31
    have HZ2 := Lib.hid (HZ1.out.trans (hbx.mono HZ1.out.size))
    have HX2 := Lib.hid (HX1.out.below hbx)
    have HQ2 := Lib.hid (setRow_heap _ _ _ A3 _ _ (heap_alloc_last v1 (.cells zE 31)))
    clear hat hb1 hR hSO hA3 hbx HRD HZ1 HX1 HB9
    go_upto_region 12 with (refine wpList_store_row rfl 31 _ _ rfl v1.heap.size A3 rfl rfl 31 zE (heap_alloc_last _ _) (infoE _ HAS3.out) (by rw [HAS3.out]; exact HZS.out) HAO3.out ?_)
    generalize (v1.alloc (.cells zE 31)).setRow v1.heap.size A3 = v2 at *
    generalize v1.heap.size = g11 at *
    have HRD := Lib.hid (rread_any s v2 (by have := HS4.out; omega))
    go_wp2_with fail
    refine HRD.out.mono ?_
    rintro x v3 ⟨pb4, cb4, q4, c4, rfl, hat, hb1⟩
    rw [HRR.out] at hat
    rw [HRR.out, HSO.out]
    have HX3 := Lib.hid hat
    have HX2' := Lib.hid (HX2.out.below hb1)
    have HQ3 := Lib.hid (Below.keepOld hb1 HQ2.out)
    have HZ3 := Lib.hid (HZ2.out.trans (hb1.mono HZ2.out.size))
    obtain ⟨A4, hA4⟩ : ∃ A4, A4 = evA R pb4 cb4 q4 c4 := ⟨_, rfl⟩
    have HAS4 : Hid (A4.size = 103) := by show _ = _; rw [hA4]; exact evA_size HX3.out.wf _ _ _ _
    have HAO4 : Hid (A4.all (·.oneCell') = true) := by show _ = _; rw [hA4]; exact evA_one _ _ _ _ _
    have HAE4 := Lib.hid hA4
    rw [← hA4]
    have hbx := box_below v3 zE A4 37
    have HZ4 := Lib.hid (HZ3.out.trans (hbx.mono HZ3.out.size))
    have HX4 := Lib.hid (HX3.out.below hbx)
    have HX5 := Lib.hid (HX2'.out.below hbx)
    have HQ5 := Lib.hid (Below.keepOld hbx HQ3.out)
    have HQ4 := Lib.hid (setRow_heap _ _ _ A4 _ _ (heap_alloc_last v3 (.cells zE 37)))
    clear hat hb1 hA4 hbx HRD HZ3 HX3 HX2' HQ3 HZ2 HX2 HQ2
    go_upto_region 13 with (refine wpList_store_row rfl 37 _ _ rfl v3.heap.size A4 rfl rfl 37 zE (heap_alloc_last _ _) (infoF _ HAS4.out) (by rw [HAS4.out]; exact HZS.out) HAO4.out ?_)
    generalize (v3.alloc (.cells zE 37)).setRow v3.heap.size A4 = v4 at *
    generalize v3.heap.size = g13 at *
    have HRG := Lib.hid (fun w' (hb : Below v4.heap.size v4 w') => row_rangeS (Below.keepOld hb HQ5.out))
    have HRH := Lib.hid (fun w' (hb : Below v4.heap.size v4 w') => row_rangeS (Below.keepOld hb HQ4.out))
    have HP2 := Lib.hid (fun (y : World) => plain_any (e := R) (pb := pb3) (cb := cb3) (q := q3) (c := c3) y HX5.out.wf)
    have HSM := Lib.hid (fun (y : World) (hy : Below v4.heap.size v4 y) => rsame_any y (HX5.out.below hy) (HX4.out.below hy))
    rw [← HAE3.out] at HP2 HSM
    rw [← HAE4.out, decide_eq_true (rfl : R = R)] at HSM
    refine wp_region_eager [(0, true), (2, true), (1, false), (3, false), (4, true), (5, true), (6, true), (7, true), (8, true), (9, true)] (by kernel_rfl) (by kernel_rfl) (eagerOpen rfl ?_)
    have hy0 : Below v4.heap.size v4 v4.drew := below_drew1 _ _
    repeat (first
      | ((with_reducible refine eagerLoadAt 11 ?_); refine wpEager_load (by rfl) 31 _ rfl g11 0 rfl A3 _ (fun w' hb => HRG.out w' hb) Tryd.underlying31 rfl (infoE _ HAS3.out) ?_; (try simp only [Act.put, List.setIfInBounds_toArray, List.set_cons_zero, List.set_cons_succ]); (try refine eagerOpen rfl ?_))
      | ((with_reducible refine eagerLoadAt 13 ?_); refine wpEager_load (by rfl) 37 _ rfl g13 0 rfl A4 _ (fun w' hb => HRH.out w' hb) Tryd.underlying37 rfl (infoF _ HAS4.out) ?_; (try simp only [Act.put, List.setIfInBounds_toArray, List.set_cons_zero, List.set_cons_succ]); (try refine eagerOpen rfl ?_))
      | (first | (apply wpEager_take; (· rfl); (· (intro w' hb'; go_simp; try with_reducible rfl)); (try simp only [Act.put, List.setIfInBounds_toArray, List.set_cons_zero, List.set_cons_succ]); (try refine eagerOpen rfl ?_)) | (refine wpEager_skip (by rfl) ?_; (try simp only [Act.put, List.setIfInBounds_toArray, List.set_cons_zero, List.set_cons_succ]); (try refine eagerOpen rfl ?_)) | (refine wpEager_off (by rfl) ?_; (try simp only [Act.put, List.setIfInBounds_toArray, List.set_cons_zero, List.set_cons_succ]); (try refine eagerOpen rfl ?_))))
    (refine wpEager_op (by rfl) (fun K hK => ?_); go_simp; (refine (HP2.out _).mono ?_; rintro x y1 ⟨rfl, hb⟩; have hy1 := hy0.trans hb; clear hb); refine Shut.out hK _ _ (by assumption) ?_; clear hK K; (try simp only [Act.put, List.setIfInBounds_toArray, List.set_cons_zero, List.set_cons_succ]); (try refine eagerOpen rfl ?_))
    repeat (first | (apply wpEager_take; (· rfl); (· (intro w' hb'; go_simp; try with_reducible rfl)); (try simp only [Act.put, List.setIfInBounds_toArray, List.set_cons_zero, List.set_cons_succ]); (try refine eagerOpen rfl ?_)) | (refine wpEager_skip (by rfl) ?_; (try simp only [Act.put, List.setIfInBounds_toArray, List.set_cons_zero, List.set_cons_succ]); (try refine eagerOpen rfl ?_)) | (refine wpEager_off (by rfl) ?_; (try simp only [Act.put, List.setIfInBounds_toArray, List.set_cons_zero, List.set_cons_succ]); (try refine eagerOpen rfl ?_)))
    (refine wpEager_op (by rfl) (fun K hK => ?_); go_simp; (refine (HSM.out _ hy1).mono ?_; rintro x y2 ⟨rfl, hb⟩; have hy2 := hy1.trans (hb.mono hy1.size); clear hb); refine Shut.out hK _ _ (by assumption) ?_; clear hK K; (try simp only [Act.put, List.setIfInBounds_toArray, List.set_cons_zero, List.set_cons_succ]); (try refine eagerOpen rfl ?_))
    repeat (first | (apply wpEager_take; (· rfl); (· (intro w' hb'; go_simp; try with_reducible rfl)); (try simp only [Act.put, List.setIfInBounds_toArray, List.set_cons_zero, List.set_cons_succ]); (try refine eagerOpen rfl ?_)) | (refine wpEager_skip (by rfl) ?_; (try simp only [Act.put, List.setIfInBounds_toArray, List.set_cons_zero, List.set_cons_succ]); (try refine eagerOpen rfl ?_)) | (refine wpEager_off (by rfl) ?_; (try simp only [Act.put, List.setIfInBounds_toArray, List.set_cons_zero, List.set_cons_succ]); (try refine eagerOpen rfl ?_)))
    refine eagerEnd ?_
    have HB5 := Lib.hid (HZ4.out.trans (hy2.mono HZ4.out.size))
    have HX6 := Lib.hid (HX5.out.below hy2)
    have HQ6 := Lib.hid (Below.keepOld hy2 HQ5.out)
    clear hy0 hy1 hy2 HP2 HSM HRG HRH HQ4 HX4 HX5 HQ5 HZ4
    generalize v4.heap.size = g4 at *
    cases SO with
    | false =>
      go_wp2_with fail
      refine (alive39_any y2 (HM.out.below HB5.out)).mono ?_
      rintro x v6 ⟨rfl, hb⟩
      go_wp2_with fail
      go_ret
      exact ⟨rfl, HB5.out.trans (hb.mono HB5.out.size)⟩
    | true =>
      have HRD : Hid (readE s = some R) := by
        show _ = _
        obtain ⟨v, hv⟩ := Option.isSome_iff_exists.1 HSO.out
        have h1 := HRR.out
        rw [hv] at h1 ⊢
        exact congrArg some h1
      obtain ⟨hl1, hl2, _⟩ := line_read HRD.out
      have hge := lineE_ge hl2
      rw [hl1] at hge
      have HLN := Lib.hid (line_any R pb3 cb3 q3 c3 y2 HX6.out (by have := HS4.out; omega) (by have := HS4.out; omega))
      unfold LineP at HLN
      rw [← HAE3.out, hl1, decide_eq_true hl2] at HLN
      clear hl1 hl2 hge
      go_wp2_with (refine wpList_load_row rfl 31 _ rfl g11 rfl 31 A3 (0, 0) _ HQ6.out Tryd.underlying31 rfl (infoE _ HAS3.out) ?_)
      refine HLN.out.mono ?_
      rintro x v6 ⟨rfl, hb⟩
      have HB6 := Lib.hid (HB5.out.trans (hb.mono HB5.out.size))
      clear hb HLN
      go_wp2_with fail
      refine (alive39_any v6 (HM.out.below HB6.out)).mono ?_
      rintro x v7 ⟨rfl, hb⟩
      go_wp2_with fail
      go_ret
      exact ⟨rfl, HB6.out.trans (hb.mono HB6.out.size)⟩
  have HGD := Lib.hid hg
  have HB9 := HB4
  rw [decide_eq_false hg]
  clear hg HB4 HAT4 HR4
  generalize lineE e = le at *
  obtain ⟨wB, hwB⟩ : ∃ wB, wB = w4 := ⟨_, rfl⟩
  subst hwB
  skip
  -- behind the first half: HB9 : Below w.heap.size w wB
  have HRD := Lib.hid (read_any s wB (by have := HS4.out; omega) (HM.out.below HB9.out))
  go_wp2_with fail
  refine HRD.out.mono ?_
  rintro x v1 ⟨pb3, cb3, q3, c3, rfl, hat, hb1⟩
  obtain ⟨R, hR⟩ : ∃ R, (readE s).getD (Ev.zero 0) = R := ⟨_, rfl⟩
  obtain ⟨SO, hSO⟩ : ∃ SO, (readE s).isSome = SO := ⟨_, rfl⟩
  rw [hR] at hat
  have HX1 := Lib.hid hat
  have HZ1 := Lib.hid (HB9.out.trans (hb1.mono HB9.out.size))
  have HRR := Lib.hid hR
  have HSO := Lib.hid hSO
  rw [hR, hSO]
  obtain ⟨A3, hA3⟩ : ∃ A3, A3 = evA R pb3 cb3 q3 c3 := ⟨_, rfl⟩
  have HAS3 : Hid (A3.size = 103) := by show _ = _; rw [hA3]; exact evA_size HX1.out.wf _ _ _ _
  have HAO3 : Hid (A3.all (·.oneCell') = true) := by show _ = _; rw [hA3]; exact evA_one _ _ _ _ _
  have HAE3 := Lib.hid hA3
  rw [← hA3]
  have hbx := box_below v1 zE A3 31
  have HZ2 := Lib.hid (HZ1.out.trans (hbx.mono HZ1.out.size))
  have HX2 := Lib.hid (HX1.out.below hbx)
  have HQ2 := Lib.hid (setRow_heap _ _ _ A3 _ _ (heap_alloc_last v1 (.cells zE 31)))
  clear hat hb1 hR hSO hA3 hbx HRD HZ1 HX1 HB9
  go_upto_region 12 with (refine wpList_store_row rfl 31 _ _ rfl v1.heap.size A3 rfl rfl 31 zE (heap_alloc_last _ _) (infoE _ HAS3.out) (by rw [HAS3.out]; exact HZS.out) HAO3.out ?_)
  generalize (v1.alloc (.cells zE 31)).setRow v1.heap.size A3 = v2 at *
  generalize v1.heap.size = g11 at *
  have HRD := Lib.hid (rread_any s v2 (by have := HS4.out; omega))
  go_wp2_with fail
  refine HRD.out.mono ?_
  rintro x v3 ⟨pb4, cb4, q4, c4, rfl, hat, hb1⟩
  rw [HRR.out] at hat
  rw [HRR.out, HSO.out]
  have HX3 := Lib.hid hat
  have HX2' := Lib.hid (HX2.out.below hb1)
  have HQ3 := Lib.hid (Below.keepOld hb1 HQ2.out)
  have HZ3 := Lib.hid (HZ2.out.trans (hb1.mono HZ2.out.size))
  obtain ⟨A4, hA4⟩ : ∃ A4, A4 = evA R pb4 cb4 q4 c4 := ⟨_, rfl⟩
  have HAS4 : Hid (A4.size = 103) := by show _ = _; rw [hA4]; exact evA_size HX3.out.wf _ _ _ _
  have HAO4 : Hid (A4.all (·.oneCell') = true) := by show _ = _; rw [hA4]; exact evA_one _ _ _ _ _
  have HAE4 := Lib.hid hA4
  rw [← hA4]
  have hbx := box_below v3 zE A4 37
  have HZ4 := Lib.hid (HZ3.out.trans (hbx.mono HZ3.out.size))
  have HX4 := Lib.hid (HX3.out.below hbx)
  have HX5 := Lib.hid (HX2'.out.below hbx)
  have HQ5 := Lib.hid (Below.keepOld hbx HQ3.out)
  have HQ4 := Lib.hid (setRow_heap _ _ _ A4 _ _ (heap_alloc_last v3 (.cells zE 37)))
  clear hat hb1 hA4 hbx HRD HZ3 HX3 HX2' HQ3 HZ2 HX2 HQ2
  go_upto_region 13 with (refine wpList_store_row rfl 37 _ _ rfl v3.heap.size A4 rfl rfl 37 zE (heap_alloc_last _ _) (infoF _ HAS4.out) (by rw [HAS4.out]; exact HZS.out) HAO4.out ?_)
  generalize (v3.alloc (.cells zE 37)).setRow v3.heap.size A4 = v4 at *
  generalize v3.heap.size = g13 at *
  have HRG := Lib.hid (fun w' (hb : Below v4.heap.size v4 w') => row_rangeS (Below.keepOld hb HQ5.out))
  have HRH := Lib.hid (fun w' (hb : Below v4.heap.size v4 w') => row_rangeS (Below.keepOld hb HQ4.out))
  have HP2 := Lib.hid (fun (y : World) => plain_any (e := R) (pb := pb3) (cb := cb3) (q := q3) (c := c3) y HX5.out.wf)
  have HSM := Lib.hid (fun (y : World) (hy : Below v4.heap.size v4 y) => rsame_any y (HX5.out.below hy) (HX4.out.below hy))
  rw [← HAE3.out] at HP2 HSM
  rw [← HAE4.out, decide_eq_true (rfl : R = R)] at HSM
  refine wp_region_eager [(0, true), (2, true), (1, false), (3, false), (4, true), (5, true), (6, true), (7, true), (8, true), (9, true)] (by kernel_rfl) (by kernel_rfl) (eagerOpen rfl ?_)
  have hy0 : Below v4.heap.size v4 v4.drew := below_drew1 _ _
  repeat (first
    | ((with_reducible refine eagerLoadAt 11 ?_); refine wpEager_load (by rfl) 31 _ rfl g11 0 rfl A3 _ (fun w' hb => HRG.out w' hb) Tryd.underlying31 rfl (infoE _ HAS3.out) ?_; (try simp only [Act.put, List.setIfInBounds_toArray, List.set_cons_zero, List.set_cons_succ]); (try refine eagerOpen rfl ?_))
    | ((with_reducible refine eagerLoadAt 13 ?_); refine wpEager_load (by rfl) 37 _ rfl g13 0 rfl A4 _ (fun w' hb => HRH.out w' hb) Tryd.underlying37 rfl (infoF _ HAS4.out) ?_; (try simp only [Act.put, List.setIfInBounds_toArray, List.set_cons_zero, List.set_cons_succ]); (try refine eagerOpen rfl ?_))
    | (first | (apply wpEager_take; (· rfl); (· (intro w' hb'; go_simp; try with_reducible rfl)); (try simp only [Act.put, List.setIfInBounds_toArray, List.set_cons_zero, List.set_cons_succ]); (try refine eagerOpen rfl ?_)) | (refine wpEager_skip (by rfl) ?_; (try simp only [Act.put, List.setIfInBounds_toArray, List.set_cons_zero, List.set_cons_succ]); (try refine eagerOpen rfl ?_)) | (refine wpEager_off (by rfl) ?_; (try simp only [Act.put, List.setIfInBounds_toArray, List.set_cons_zero, List.set_cons_succ]); (try refine eagerOpen rfl ?_))))
  (refine wpEager_op (by rfl) (fun K hK => ?_); go_simp; (refine (HP2.out _).mono ?_; rintro x y1 ⟨rfl, hb⟩; have hy1 := hy0.trans hb; clear hb); refine Shut.out hK _ _ (by assumption) ?_; clear hK K; (try simp only [Act.put, List.setIfInBounds_toArray, List.set_cons_zero, List.set_cons_succ]); (try refine eagerOpen rfl ?_))
  repeat (first | (apply wpEager_take; (· rfl); (· (intro w' hb'; go_simp; try with_reducible rfl)); (try simp only [Act.put, List.setIfInBounds_toArray, List.set_cons_zero, List.set_cons_succ]); (try refine eagerOpen rfl ?_)) | (refine wpEager_skip (by rfl) ?_; (try simp only [Act.put, List.setIfInBounds_toArray, List.set_cons_zero, List.set_cons_succ]); (try refine eagerOpen rfl ?_)) | (refine wpEager_off (by rfl) ?_; (try simp only [Act.put, List.setIfInBounds_toArray, List.set_cons_zero, List.set_cons_succ]); (try refine eagerOpen rfl ?_)))
  (refine wpEager_op (by rfl) (fun K hK => ?_); go_simp; (refine (HSM.out _ hy1).mono ?_; rintro x y2 ⟨rfl, hb⟩; have hy2 := hy1.trans (hb.mono hy1.size); clear hb); refine Shut.out hK _ _ (by assumption) ?_; clear hK K; (try simp only [Act.put, List.setIfInBounds_toArray, List.set_cons_zero, List.set_cons_succ]); (try refine eagerOpen rfl ?_))
  repeat (first | (apply wpEager_take; (· rfl); (· (intro w' hb'; go_simp; try with_reducible rfl)); (try simp only [Act.put, List.setIfInBounds_toArray, List.set_cons_zero, List.set_cons_succ]); (try refine eagerOpen rfl ?_)) | (refine wpEager_skip (by rfl) ?_; (try simp only [Act.put, List.setIfInBounds_toArray, List.set_cons_zero, List.set_cons_succ]); (try refine eagerOpen rfl ?_)) | (refine wpEager_off (by rfl) ?_; (try simp only [Act.put, List.setIfInBounds_toArray, List.set_cons_zero, List.set_cons_succ]); (try refine eagerOpen rfl ?_)))
  refine eagerEnd ?_
  have HB5 := Lib.hid (HZ4.out.trans (hy2.mono HZ4.out.size))
  have HX6 := Lib.hid (HX5.out.below hy2)
  have HQ6 := Lib.hid (Below.keepOld hy2 HQ5.out)
  clear hy0 hy1 hy2 HP2 HSM HRG HRH HQ4 HX4 HX5 HQ5 HZ4
  generalize v4.heap.size = g4 at *
  cases SO with
  | false =>
    go_wp2_with fail
    refine (alive39_any y2 (HM.out.below HB5.out)).mono ?_
    rintro x v6 ⟨rfl, hb⟩
    go_wp2_with fail
    go_ret
    exact ⟨rfl, HB5.out.trans (hb.mono HB5.out.size)⟩
  | true =>
    have HRD : Hid (readE s = some R) := by
      show _ = _
      obtain ⟨v, hv⟩ := Option.isSome_iff_exists.1 HSO.out
      have h1 := HRR.out
      rw [hv] at h1 ⊢
      exact congrArg some h1
    obtain ⟨hl1, hl2, _⟩ := line_read HRD.out
    have hge := lineE_ge hl2
    rw [hl1] at hge
    have HLN := Lib.hid (line_any R pb3 cb3 q3 c3 y2 HX6.out (by have := HS4.out; omega) (by have := HS4.out; omega))
    unfold LineP at HLN
    rw [← HAE3.out, hl1, decide_eq_true hl2] at HLN
    clear hl1 hl2 hge
    go_wp2_with (refine wpList_load_row rfl 31 _ rfl g11 rfl 31 A3 (0, 0) _ HQ6.out Tryd.underlying31 rfl (infoE _ HAS3.out) ?_)
    refine HLN.out.mono ?_
    rintro x v6 ⟨rfl, hb⟩
    have HB6 := Lib.hid (HB5.out.trans (hb.mono HB5.out.size))
    clear hb HLN
    go_wp2_with fail
    refine (alive39_any v6 (HM.out.below HB6.out)).mono ?_
    rintro x v7 ⟨rfl, hb⟩
    go_wp2_with fail
    go_ret
    exact ⟨rfl, HB6.out.trans (hb.mono HB6.out.size)⟩
end Go.Proofs.YtcddgbobbogpgaaDoor.Scr

namespace Go.Proofs.YtcddgbobbogpgaaDoor.Blk
open Go.ChangeShapes Go.WideShapes Go.ChangeAt Go.RowKit Go.Mir

theorem trod_blk {W : World} {H : Type} {enc : TypeId × Value → H} {base fuel : Nat} {held : Bool} {cs : List Value} {x : DataW H × List MemPlace} (h : DataW.trod enc Tryd.prog W base (fun _ => true) held fuel 28 cs = some x) :
    ∃ d q n c, cs = bytesV d.hash ++ bytesV d.par ++ [Value.slice q n c] ∧ BlkAt W (blkA d.hash d.par q n c) d q n c := by
  obtain ⟨y0, y1, y2, m, rfl, hl, h0, h1, h2⟩ := Deep.trod_struct3 Tryd.underlying28 h
  obtain ⟨zs0, e0, l0, w0⟩ := trod_nums Tryd.underlying25 Tryd.underlying5 (by kernel_rfl) (by kernel_rfl) h0
  obtain ⟨zs1, e1, l1, w1⟩ := trod_nums Tryd.underlying25 Tryd.underlying5 (by kernel_rfl) (by kernel_rfl) h1
  obtain ⟨a0, rfl⟩ := u8_of_list zs0 w0
  obtain ⟨a1, rfl⟩ := u8_of_list zs1 w1
  obtain ⟨q, n, c, ids, e2, hi, _⟩ := trod_is Tryd.underlying26 Tryd.underlying25 Tryd.underlying5 (by kernel_rfl) (by kernel_rfl) (by omega) h2
  have hc0 : Tryd.prog.cellsOf 25 = 32 := by kernel_rfl
  have hc1 : Tryd.prog.cellsOf 26 = 1 := by kernel_rfl
  have hc2 : Tryd.prog.cellsOf 28 = 65 := by kernel_rfl
  simp only [hc0, hc1] at e0 e1 e2
  rw [hc2] at hl
  refine ⟨⟨a0, a1, ids⟩, q, n, c, ?_, rfl, by simpa using l0, by simpa using l1, hi⟩
  have e0' : cs.take 32 = bytesV a0 := by rw [show bytesV a0 = (a0.map (fun b => (b.toNat : Int))).map (Value.int .u8) by simp [bytesV]]; rw [← e0]; simp
  have e1' : (cs.drop 32).take 32 = bytesV a1 := by rw [show bytesV a1 = (a1.map (fun b => (b.toNat : Int))).map (Value.int .u8) by simp [bytesV]]; exact e1
  have e2' : cs.drop 64 = [Value.slice q n c] := by rw [← e2]; rw [List.take_of_length_le (by rw [List.length_drop]; omega)]
  show cs = bytesV a0 ++ bytesV a1 ++ [Value.slice q n c]
  rw [← e0', ← e1', ← e2', List.append_assoc, show cs.drop 64 = (cs.drop 32).drop 32 by rw [List.drop_drop], List.take_append_drop, List.take_append_drop]
end Go.Proofs.YtcddgbobbogpgaaDoor.Blk

namespace Go.Proofs.YtcddgbobbogpgaaDoor.Scr
open Go.ChangeShapes Go.WideShapes Go.ChangeAt Go.RowKit Go.Mir Rpl

theorem split6 (cs : List Value) (h : cs.length = 103) : cs = (cs.drop 0).take 1 ++ ((cs.drop 1).take 1 ++ ((cs.drop 2).take 65 ++ ((cs.drop 67).take 32 ++ ((cs.drop 99).take 1 ++ (cs.drop 100).take 3)))) := by
  have cut : ∀ k n : Nat, (cs.drop k).take n ++ cs.drop (k + n) = cs.drop k := fun k n => by rw [← List.drop_drop, List.take_append_drop]
  have h20 : (cs.drop 100).take 3 = cs.drop 100 := List.take_of_length_le (by simp [h])
  rw [h20, cut 99 1, cut 67 32, cut 2 65, cut 1 1, cut 0 1, List.drop_zero]
set_option maxRecDepth 100000 in
theorem trod_ev {W : World} {H : Type} {enc : TypeId × Value → H} {base fuel : Nat} {held : Bool} {cs : List Value} {x : DataW H × List MemPlace}
    (h : DataW.trod enc Tryd.prog W base (fun _ => true) held fuel 31 cs = some x) : ∃ (e : Ev) (pb : Option Addr) (cb : Nat) (q : Option Addr) (c : Nat), cs = evL e pb cb q c ∧ EvAt W e pb cb q c := by
  obtain ⟨xs, m, rfl, rfl, hl, hxl, hx⟩ := DataW.trod_struct Tryd.underlying31 h
  have hl' : cs.length = 103 := by rw [hl]; kernel_rfl
  have hxl' : xs.length = 6 := by rw [hxl]; rfl
  match xs, hxl' with
  | [x0, x1, x2, x3, x4, x5], _ =>
    have h0 := hx 0 _ rfl
    have h1 := hx 1 _ rfl
    have h2 := hx 2 _ rfl
    have h3 := hx 3 _ rfl
    have h4 := hx 4 _ rfl
    have h5 := hx 5 _ rfl
    obtain ⟨z0, e0, _, w0⟩ := DataW.trod_int Tryd.underlying22 h0
    obtain ⟨p1, n1, c1, l1, e1, b1, dl1⟩ := trod_bs Tryd.underlying23 Tryd.underlying5 rfl h1
    obtain ⟨d2, q2, n2, c2, e2, hb2⟩ := Blk.trod_blk h2
    obtain ⟨z3, e3, hz3, w3⟩ := trod_nums Tryd.underlying25 Tryd.underlying5 rfl rfl h3
    obtain ⟨z4, e4, _, w4⟩ := DataW.trod_int Tryd.underlying3 h4
    obtain ⟨z5, e5, hz5, w5⟩ := trod_nums Tryd.underlying29 Tryd.underlying3 rfl rfl h5
    obtain ⟨y3, rfl⟩ := u8_of_list z3 w3
    obtain rfl := b1.length
    obtain rfl := hb2.ids.count
    have hy : y3.length = 32 := by simpa using hz3
    match z5, hz5 with
    | [u0, u1, u2], _ =>
      refine ⟨⟨z0, l1, d2.hash, d2.par, d2.txs, y3, z4, u0, u1, u2⟩, p1, c1, q2, c2, ?_, ⟨⟨hb2.hlen, hb2.plen, hy, hb2.ids.each, i64_bd w0, i64_bd w4, i64_bd (w5 u0 (by simp)), i64_bd (w5 u1 (by simp)), i64_bd (w5 u2 (by simp))⟩, b1, hb2.ids⟩⟩
      have hs := split6 cs hl'
      have e0' : (cs.drop 0).take 1 = [.int .i64 z0] := e0
      have e1' : (cs.drop 1).take 1 = [.slice p1 l1.length c1] := e1
      have e2' : (cs.drop 2).take 65 = bytesV d2.hash ++ bytesV d2.par ++ [Value.slice q2 d2.txs.length c2] := e2
      have e3' : (cs.drop 67).take 32 = bytesV y3 := by
        refine Eq.trans (show _ = _ from e3) ?_
        simp [bytesV, List.map_map]
      have e4' : (cs.drop 99).take 1 = [.int .i64 z4] := e4
      have e5' : (cs.drop 100).take 3 = [.int .i64 u0, .int .i64 u1, .int .i64 u2] := e5
      rw [e0', e1', e2', e3', e4', e5'] at hs
      rw [hs]
      unfold evL u3L
      simp
set_option maxRecDepth 100000 in
theorem open_ev {W : World} {H : Type} {enc : TypeId × Value → H} {base : Nat} {v : Value} {d : DataW H} {ps : List MemPlace} (hval : Value.okWide Tryd.prog W .any base 31 v) (h : DataW.Trod enc Tryd.prog W 0 (fun _ => true) true 31 v d ps) :
    ∃ e pb cb q c, v = .agg (evA e pb cb q c) ∧ EvAt W e pb cb q c := by
  obtain ⟨cs, rfl, hcs⟩ := okWide_struct Tryd.underlying31 hval
  obtain ⟨fuel, hf⟩ := h
  have hf' : DataW.trod enc Tryd.prog W 0 (fun _ => true) true fuel 31 cs.toList = some (d, ps) := hf
  obtain ⟨e, pb, cb, q, c, ho, hm⟩ := trod_ev hf'
  refine ⟨e, pb, cb, q, c, ?_, hm⟩
  have : cs = (evL e pb cb q c).toArray := by rw [← Array.toArray_toList (xs := cs), ho]
  rw [this]
  rfl
end Go.Proofs.YtcddgbobbogpgaaDoor.Scr
