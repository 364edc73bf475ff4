/- PARTS, JOINED: SCRIPTS: the reference's Line. Conditions: at most 100000 bytes and ids. SCRIPTS: the document's split. Conditions: texts of less than 2^32 bytes. SCRIPTS: the reference's Read. Conditions: a text that fits. -/
import Derived.Test.YtcddgbobbogpgaaDoorSa1
import Derived.Test.YtcddgbobbogpgaaDoorSa2
import Derived.Test.YtcddgbobbogpgaaDoorSa3
import Derived.Test.YtcddgbobbogpgaaDoorSa4
import Derived.Test.YtcddgbobbogpgaaDoorSa5
import Derived.Test.YtcddgbobbogpgaaDoorSa6
namespace Go.Proofs.YtcddgbobbogpgaaDoor.Scr
open Go.RowKit Go.Mir Go.Mir.Hx Go.Mir.Parts HexW Rpl
open Go.Lib (join joinTail)

theorem join_snoc (a : List UInt8) (r : List (List UInt8)) (x : List UInt8) : join (a :: (r ++ [x])) [32] = join (a :: r) [32] ++ [32] ++ x := by
  simp [Go.Lib.join_cons, Go.Lib.joinTail]
theorem k6_cell {w : World} {g : Nat} (h : Ws w (some ⟨g, 0, none⟩) 7 7 K6) (k : Nat) (hk : k < 7) : w.cell? ⟨g, k, none⟩ = some (.string (S (K6.getD k []))) := by
  have h1 := Ws.str h (j := k) hk
  rw [Nat.zero_add] at h1
  rw [h1, List.getD_eq_getElem?_getD, List.getElem?_eq_getElem (show k < K6.length from hk)]; rfl
theorem S_app (a b : List UInt8) : S a ++ S b = S (a ++ b) := ByteArray.mk_append_mk a b
theorem take_getD (l : List Int) (i : Nat) (h : i < l.length) : l.take (i + 1) = l.take i ++ [l.getD i 0] := by
  rw [List.take_succ_eq_append_getElem h, List.getD_eq_getElem?_getD, List.getElem?_eq_getElem h]; rfl
theorem mem_getD (l : List Int) (i : Nat) (h : i < l.length) : l.getD i 0 ∈ l := by
  rw [List.getD_eq_getElem?_getD, List.getElem?_eq_getElem h]
  exact List.getElem_mem h
theorem lineE_words {e : Ev} {s0 : List UInt8} {r : List (List UInt8)} (hg : Good e) (h0 : K6.getD e.k.toNat [] = s0) (hr : restE e = r) : lineE e = join (s0 :: r) [32] := by
  rw [(line_good hg).1, wordsE, h0, hr]
set_option maxRecDepth 100000 in
set_option maxHeartbeats 6400000 in
theorem rline_any (e : Ev) (pb : Option Addr) (cb : Nat) (q : Option Addr) (c : Nat) (w : World) (h : EvAt w e pb cb q c) (hby : e.b.length ≤ 100000) (htx : e.tx.length ≤ 100000) :
    Calls Tryd.prog 8 #[.agg (evA e pb cb q c)] w (LineP e w) := by
  have hal := Below.allocs w (.cells (evA e pb cb q c) 37)
  have hr := heap_alloc_last w (.cells (evA e pb cb q c) 37)
  have HB1 := Lib.hid hal
  have HWF := Lib.hid h.wf
  have HAT := Lib.hid (h.below hal)
  have HBY := Lib.hid hby
  have HTX := Lib.hid htx
  obtain ⟨A, hA⟩ : ∃ A, A = evA e pb cb q c := ⟨_, rfl⟩
  have HAS : Hid (A.size = 103) := by show _ = _; rw [hA]; exact evA_size h.wf pb cb q c
  have HAE := Lib.hid hA
  rw [← hA] at hr HB1 HAT ⊢
  have HR1 := Lib.hid hr
  have hrow := hr
  rw [hA] at hrow
  have hk := (ev_row h.wf (by rw [hA] at hr; exact hr)).k
  rw [← hA] at hk
  clear h hal hr hA hby htx hrow
  by_cases k1 : e.k < 1
  · have d1 : decide (e.k < 1) = true := decide_eq_true k1
    have HBAD : Hid (¬ Good e) := fun hg => by have := hg.1.1; omega
    clear k1
    go_enter Tryd.func8, Tryd.ntmps8
    go_upto_region 1 with fail
    generalize w.alloc (.cells A 37) = w1 at *
    have HK1 : Hid (∀ w', Below w1.heap.size w1 w' → w'.cell? ⟨w.heap.size, 0, none⟩ = some (.int .i64 e.k)) := fun w' hb => cell_below hk hb
    refine wp_region_eager [(0, true), (1, true), (2, true), (3, true), (4, true), (5, true), (6, true), (7, true), (8, true), (9, true), (10, true), (11, true), (12, true), (13, true), (14, true)] (by kernel_rfl) (by kernel_rfl) (eagerOpen rfl ?_)
    have hy0 : Below w1.heap.size w1 w1.drew := below_drew1 _ _
    repeat (first
      | (first | (apply wpEager_take; (· rfl); (· (intro w' hb'; go_simp; try with_reducible rfl)); (try simp only [Act.put, List.setIfInBounds_toArray, List.set_cons_zero, List.set_cons_succ]); (try refine eagerOpen rfl ?_)) | (refine wpEager_skip (by rfl) ?_; (try simp only [Act.put, List.setIfInBounds_toArray, List.set_cons_zero, List.set_cons_succ]); (try refine eagerOpen rfl ?_)) | (refine wpEager_off (by rfl) ?_; (try simp only [Act.put, List.setIfInBounds_toArray, List.set_cons_zero, List.set_cons_succ]); (try refine eagerOpen rfl ?_)))
      | (apply wpEager_take; (· rfl); (· (intro w' hb'; have hk' := (HK1.out) w' hb'; go_split_ands; go_simp; try with_reducible rfl)); (try simp only [Act.put, List.setIfInBounds_toArray, List.set_cons_zero, List.set_cons_succ]); (try refine eagerOpen rfl ?_)))
    refine eagerEnd ?_
    have HBX := Lib.hid (HB1.out.trans (hy0.mono HB1.out.size))
    clear hy0 hk
    go_wp2_with fail
    skip
    -- no line is told: HBX : Below w.heap.size w WX; HBAD : Hid (¬ Good e)
    go_ret2
    obtain ⟨f1, f2⟩ := line_bad HBAD.out
    unfold LineP
    rw [f1, f2]
    exact ⟨rfl, HBX.out⟩
  have d1 : decide (e.k < 1) = false := decide_eq_false k1
  by_cases k2 : 6 < e.k
  · have d2 : decide (6 < e.k) = true := decide_eq_true k2
    have HBAD : Hid (¬ Good e) := fun hg => by have := hg.1.2; omega
    clear k1 k2
    go_enter Tryd.func8, Tryd.ntmps8
    go_upto_region 1 with fail
    generalize w.alloc (.cells A 37) = w1 at *
    have HK1 : Hid (∀ w', Below w1.heap.size w1 w' → w'.cell? ⟨w.heap.size, 0, none⟩ = some (.int .i64 e.k)) := fun w' hb => cell_below hk hb
    refine wp_region_eager [(0, true), (1, true), (2, true), (3, true), (4, true), (5, true), (6, true), (7, true), (8, true), (9, true), (10, true), (11, true), (12, true), (13, true), (14, true)] (by kernel_rfl) (by kernel_rfl) (eagerOpen rfl ?_)
    have hy0 : Below w1.heap.size w1 w1.drew := below_drew1 _ _
    repeat (first
      | (first | (apply wpEager_take; (· rfl); (· (intro w' hb'; go_simp; try with_reducible rfl)); (try simp only [Act.put, List.setIfInBounds_toArray, List.set_cons_zero, List.set_cons_succ]); (try refine eagerOpen rfl ?_)) | (refine wpEager_skip (by rfl) ?_; (try simp only [Act.put, List.setIfInBounds_toArray, List.set_cons_zero, List.set_cons_succ]); (try refine eagerOpen rfl ?_)) | (refine wpEager_off (by rfl) ?_; (try simp only [Act.put, List.setIfInBounds_toArray, List.set_cons_zero, List.set_cons_succ]); (try refine eagerOpen rfl ?_)))
      | (apply wpEager_take; (· rfl); (· (intro w' hb'; have hk' := (HK1.out) w' hb'; go_split_ands; go_simp; try with_reducible rfl)); (try simp only [Act.put, List.setIfInBounds_toArray, List.set_cons_zero, List.set_cons_succ]); (try refine eagerOpen rfl ?_)))
    refine eagerEnd ?_
    have HBX := Lib.hid (HB1.out.trans (hy0.mono HB1.out.size))
    clear hy0 hk
    go_wp2_with fail
    skip
    -- no line is told: HBX : Below w.heap.size w WX; HBAD : Hid (¬ Good e)
    go_ret2
    obtain ⟨f1, f2⟩ := line_bad HBAD.out
    unfold LineP
    rw [f1, f2]
    exact ⟨rfl, HBX.out⟩
  have d2 : decide (6 < e.k) = false := decide_eq_false k2
  have HKK : Hid (1 ≤ e.k ∧ e.k ≤ 6) := ⟨by omega, by omega⟩
  clear k1 k2
  go_enter Tryd.func8, Tryd.ntmps8
  go_upto_region 1 with fail
  generalize w.alloc (.cells A 37) = w1 at *
  have HK1 : Hid (∀ w', Below w1.heap.size w1 w' → w'.cell? ⟨w.heap.size, 0, none⟩ = some (.int .i64 e.k)) := fun w' hb => cell_below hk hb
  have HRG : Hid (∀ w', Below w1.heap.size w1 w' → w'.rangeAt w.heap.size 0 A.toList) := fun w' hb => row_rangeS (Below.keepOld hb HR1.out)
  have HON := Lib.hid (fun y (hy : Below w1.heap.size w1 y) => ronly_any e HKK.out pb cb q c y (HAT.out.below hy))
  rw [← HAE.out] at HON
  refine wp_region_eager [(0, true), (1, true), (2, true), (3, true), (4, true), (5, true), (6, true), (7, true), (8, true), (9, true), (10, true), (11, false), (12, false), (13, true), (14, true)] (by kernel_rfl) (by kernel_rfl) (eagerOpen rfl ?_)
  have hy0 : Below w1.heap.size w1 w1.drew := below_drew1 _ _
  repeat (first
    | ((with_reducible refine eagerLoadAt 1 ?_); refine wpEager_load (by rfl) 37 _ rfl w.heap.size 0 rfl A _ (fun w' hb => HRG.out w' hb) Tryd.underlying37 rfl (infoF _ HAS.out) ?_; (try simp only [Act.put, List.setIfInBounds_toArray, List.set_cons_zero, List.set_cons_succ]); (try refine eagerOpen rfl ?_))
    | (first | (apply wpEager_take; (· rfl); (· (intro w' hb'; go_simp; try with_reducible rfl)); (try simp only [Act.put, List.setIfInBounds_toArray, List.set_cons_zero, List.set_cons_succ]); (try refine eagerOpen rfl ?_)) | (refine wpEager_skip (by rfl) ?_; (try simp only [Act.put, List.setIfInBounds_toArray, List.set_cons_zero, List.set_cons_succ]); (try refine eagerOpen rfl ?_)) | (refine wpEager_off (by rfl) ?_; (try simp only [Act.put, List.setIfInBounds_toArray, List.set_cons_zero, List.set_cons_succ]); (try refine eagerOpen rfl ?_)))
    | (apply wpEager_take; (· rfl); (· (intro w' hb'; have hk' := (HK1.out) w' hb'; go_split_ands; go_simp; try with_reducible rfl)); (try simp only [Act.put, List.setIfInBounds_toArray, List.set_cons_zero, List.set_cons_succ]); (try refine eagerOpen rfl ?_)))
  (refine wpEager_op (by rfl) (fun K hK => ?_); go_simp; (refine (HON.out _ hy0).mono ?_; rintro x y1 ⟨pb', cb', q', c', rfl, hat, hb⟩; have hy1 := hy0.trans hb; have HSM := Lib.hid (rsame_any y1 (HAT.out.below hy1) hat); clear hb hat); refine Shut.out hK _ _ (by assumption) ?_; clear hK K; (try simp only [Act.put, List.setIfInBounds_toArray, List.set_cons_zero, List.set_cons_succ]); (try refine eagerOpen rfl ?_))
  rw [← HAE.out] at HSM
  obtain ⟨F, hF⟩ : ∃ F, decide (e = only e) = F := ⟨_, rfl⟩
  rw [hF] at HSM
  have HFF := Lib.hid hF
  clear hF
  (refine wpEager_op (by rfl) (fun K hK => ?_); go_simp; (refine HSM.out.mono ?_; rintro x y2 ⟨rfl, hb⟩; have hy2 := hy1.trans (hb.mono hy1.size); clear hb); refine Shut.out hK _ _ (by assumption) ?_; clear hK K; (try simp only [Act.put, List.setIfInBounds_toArray, List.set_cons_zero, List.set_cons_succ]); (try refine eagerOpen rfl ?_))
  repeat (first | (apply wpEager_take; (· rfl); (· (intro w' hb'; go_simp; try with_reducible rfl)); (try simp only [Act.put, List.setIfInBounds_toArray, List.set_cons_zero, List.set_cons_succ]); (try refine eagerOpen rfl ?_)) | (refine wpEager_skip (by rfl) ?_; (try simp only [Act.put, List.setIfInBounds_toArray, List.set_cons_zero, List.set_cons_succ]); (try refine eagerOpen rfl ?_)) | (refine wpEager_off (by rfl) ?_; (try simp only [Act.put, List.setIfInBounds_toArray, List.set_cons_zero, List.set_cons_succ]); (try refine eagerOpen rfl ?_)))
  refine eagerEnd ?_
  have HB2 := Lib.hid (HB1.out.trans (hy2.mono HB1.out.size))
  have HR2 := Lib.hid (Below.keepOld hy2 HR1.out)
  have HAT2 := Lib.hid (HAT.out.below hy2)
  clear hy0 hy1 hy2 HB1 HR1 HAT HON HSM HRG HK1 hk d1 d2
  cases F with
  | false =>
    have HBAD : Hid (¬ Good e) := fun hg => (show ¬ e = only e from of_decide_eq_false HFF.out) hg.2.1
    have HBX := HB2
    go_wp2_with fail
    skip
    -- no line is told: HBX : Below w.heap.size w WX; HBAD : Hid (¬ Good e)
    go_ret2
    obtain ⟨f1, f2⟩ := line_bad HBAD.out
    unfold LineP
    rw [f1, f2]
    exact ⟨rfl, HBX.out⟩
  | true =>
    have HEO := Lib.hid (show e = only e from of_decide_eq_true HFF.out)
    have hx2 := HR2.out
    rw [HAE.out] at hx2
    have HEV := Lib.hid (ev_row HWF.out hx2)
    have HK2 : Hid (∀ w', Below y2.heap.size y2 w' → w'.cell? ⟨w.heap.size, 0, none⟩ = some (.int .i64 e.k)) := fun w' hb => cell_below HEV.out.k hb
    clear hx2
    have hix := idx_name e.k HKK.out
    have HEV2 := HEV
    obtain ⟨kn, hkn⟩ : ∃ kn : Nat, e.k = (kn : Int) := ⟨e.k.toNat, by have := HKK.out; omega⟩
    have HKN := Lib.hid hkn
    have HK6 : Hid (1 ≤ kn ∧ kn ≤ 6) := by have := HKK.out; constructor <;> omega
    have hk6i : (kn : Int) < 7 := by have := HK6.out; omega
    have hk6n : kn < 7 := by have := HK6.out; omega
    rw [hkn] at HK2
    obtain ⟨s0, hs0⟩ : ∃ s0, K6.getD kn [] = s0 := ⟨_, rfl⟩
    have HS0 : Hid (s0.length ≤ 20) := by show _ ≤ _; rw [← hs0]; exact k6_short kn
    have HKQ : Hid (K6.getD e.k.toNat [] = s0) := by show _ = _; rw [hkn]; exact hs0
    have hsl := HS0.out
    have hx1 : ¬ (9223372036854775807 < s0.length + 1) := by omega
    go_upto_region 3 with fail
    refine wp_region_eager [(1, true), (2, true), (0, false), (3, true), (4, false), (5, true)] (by kernel_rfl) (by kernel_rfl) (eagerOpen rfl ?_)
    have hy0 : Below y2.heap.size y2 y2.drew := below_drew1 _ _
    repeat (first
      | (first | (apply wpEager_take; (· rfl); (· (intro w' hb'; go_simp; try with_reducible rfl)); (try simp only [Act.put, List.setIfInBounds_toArray, List.set_cons_zero, List.set_cons_succ]); (try refine eagerOpen rfl ?_)) | (refine wpEager_skip (by rfl) ?_; (try simp only [Act.put, List.setIfInBounds_toArray, List.set_cons_zero, List.set_cons_succ]); (try refine eagerOpen rfl ?_)) | (refine wpEager_off (by rfl) ?_; (try simp only [Act.put, List.setIfInBounds_toArray, List.set_cons_zero, List.set_cons_succ]); (try refine eagerOpen rfl ?_)))
      | (apply wpEager_take; (· rfl); (· (intro w' hb'; have hk' := (HK2.out) w' hb'; go_split_ands; go_simp; try with_reducible rfl)); (try simp only [Act.put, List.setIfInBounds_toArray, List.set_cons_zero, List.set_cons_succ]); (try refine eagerOpen rfl ?_)))
    (refine wpEager_op (by rfl) (fun K hK => ?_); go_simp; (refine (rnames_any _).mono ?_; rintro x y3 ⟨rfl, hws, hb⟩; have hy1 := hy0.trans hb; have hcn : y3.cell? ⟨y2.heap.size, kn, none⟩ = some (.string (S s0)) := (by rw [← hs0]; exact k6_cell hws kn (by omega)); clear hws hb); refine Shut.out hK _ _ (by assumption) ?_; clear hK K; (try simp only [Act.put, List.setIfInBounds_toArray, List.set_cons_zero, List.set_cons_succ]); (try refine eagerOpen rfl ?_))
    repeat (first | (apply wpEager_take; (· rfl); (· (intro w' hb'; go_simp; try with_reducible rfl)); (try simp only [Act.put, List.setIfInBounds_toArray, List.set_cons_zero, List.set_cons_succ]); (try refine eagerOpen rfl ?_)) | (refine wpEager_skip (by rfl) ?_; (try simp only [Act.put, List.setIfInBounds_toArray, List.set_cons_zero, List.set_cons_succ]); (try refine eagerOpen rfl ?_)) | (refine wpEager_off (by rfl) ?_; (try simp only [Act.put, List.setIfInBounds_toArray, List.set_cons_zero, List.set_cons_succ]); (try refine eagerOpen rfl ?_)))
    refine wpEager_op (by rfl) (fun K hK => ?_)
    go_simp
    refine Shut.out hK _ _ hy1 ?_
    clear hK K
    (try simp only [Act.put, List.setIfInBounds_toArray, List.set_cons_zero, List.set_cons_succ]); (try refine eagerOpen rfl ?_)
    repeat (first | (apply wpEager_take; (· rfl); (· (intro w' hb'; go_simp; try with_reducible rfl)); (try simp only [Act.put, List.setIfInBounds_toArray, List.set_cons_zero, List.set_cons_succ]); (try refine eagerOpen rfl ?_)) | (refine wpEager_skip (by rfl) ?_; (try simp only [Act.put, List.setIfInBounds_toArray, List.set_cons_zero, List.set_cons_succ]); (try refine eagerOpen rfl ?_)) | (refine wpEager_off (by rfl) ?_; (try simp only [Act.put, List.setIfInBounds_toArray, List.set_cons_zero, List.set_cons_succ]); (try refine eagerOpen rfl ?_)))
    refine eagerEnd ?_
    have HB3 := Lib.hid (HB2.out.trans (hy1.mono HB2.out.size))
    have HR3 := Lib.hid (Below.keepOld hy1 HR2.out)
    have HAT3 := Lib.hid (HAT2.out.below hy1)
    clear hy0 hy1 HB2 HR2 HAT2 HEV HK2 HEV2 hcn hk6i hk6n
    have hx3 := HR3.out
    rw [HAE.out] at hx3
    have HEV := Lib.hid (ev_row HWF.out hx3)
    have hk := HEV.out.k
    rw [hkn] at hk
    clear hx3 hs0
    have hkb := HEV.out.b
    have hkt := HEV.out.tx
    have hknn := HEV.out.n
    by_cases k1 : e.k = 1
    · have m1 : ((kn : Int) == 1) = true := beq_iff_eq.2 (by omega)
      have m1' : (kn == 1) = true := beq_iff_eq.2 (by omega)
      have HGD : Hid (Good e) := ⟨HKK.out, HEO.out, fun h56 => by omega⟩
      have HLN : Hid (lineE e = s0 ++ [32] ++ textL e.b) := by
        show _ = _
        rw [lineE_words HGD.out HKQ.out (show restE e = [textL e.b] by unfold restE; rw [if_pos k1])]
        simp [Go.Lib.join_cons, Go.Lib.joinTail]
      have HTXT := Lib.hid (rText_any pb e.b.length cb e.b y3 HAT3.out.bs (by have := HBY.out; omega))
      have htl := textT_len e.b
      have hby := HBY.out
      have hx2 : ¬ (9223372036854775807 < s0.length + 1 + (textL e.b).length) := by omega
      clear k1 htl hby
      generalize textL e.b = tb at *
      go_wp2_with fail
      refine HTXT.out.mono ?_
      rintro x w4 ⟨rfl, hb4⟩
      have HBX := Lib.hid (HB3.out.trans (hb4.mono HB3.out.size))
      clear hb4 HTXT
      go_wp2_with fail
      skip
      go_ret2
      unfold LineP
      rw [HLN.out, decide_eq_true HGD.out]
      exact ⟨by first | rfl | (rw [← S_app, ← S_app]; rfl), HBX.out⟩
    have m1 : ((kn : Int) == 1) = false := beq_eq_false_iff_ne.2 (by omega)
    have m1' : (kn == 1) = false := beq_eq_false_iff_ne.2 (by omega)
    by_cases k2 : e.k = 2
    · have m2 : ((kn : Int) == 2) = true := beq_iff_eq.2 (by omega)
      have m2' : (kn == 2) = true := beq_iff_eq.2 (by omega)
      have HGD : Hid (Good e) := ⟨HKK.out, HEO.out, fun h56 => by omega⟩
      have HRST : Hid (restE e = idText e.h :: idText e.p :: e.tx.map idText) := by show _ = _; unfold restE; rw [if_neg k1, if_pos k2]
      clear k1 k2
      go_upto_region 8 with fail
      have HR0 : Hid (∀ w', Below y3.heap.size y3 w' → w'.rangeAt w.heap.size 2 (idA e.h).toList) := fun w' hb => range_below HEV.out.h hb
      have HRP : Hid (∀ w', Below y3.heap.size y3 w' → w'.rangeAt w.heap.size 34 (idA e.p).toList) := fun w' hb => range_below HEV.out.p hb
      have HTH := Lib.hid (fun y => rId_any (idA e.h) e.h y (idA_toList e.h) HWF.out.h)
      have HTP := Lib.hid (fun y => rId_any (idA e.p) e.p y (idA_toList e.p) HWF.out.p)
      have h2 := idT_len e.h HWF.out.h
      have h3 := idT_len e.p HWF.out.p
      have HJ0 : Hid (join (s0 :: ([idText e.h, idText e.p] ++ (e.tx.take 0).map idText)) [32] = s0 ++ [32] ++ idText e.h ++ [32] ++ idText e.p) := by
        show _ = _
        simp [Go.Lib.join_cons, Go.Lib.joinTail]
      have HLS : Hid (∀ i, i ≤ e.tx.length → (join (s0 :: ([idText e.h, idText e.p] ++ (e.tx.take i).map idText)) [32]).length ≤ 65 * 100003) := fun i hi => by
        refine Nat.le_trans (join_le _ 64 ?_) ?_
        · intro x hx
          rcases List.mem_cons.1 hx with rfl | hx
          · omega
          · rcases List.mem_append.1 hx with hx | hx
            · simp only [List.mem_cons, List.not_mem_nil, or_false] at hx
              rcases hx with rfl | rfl
              · exact h2
              · exact h3
            · obtain ⟨y, hy, rfl⟩ := List.mem_map.1 hx
              exact idT_len y (HWF.out.tx y (List.mem_of_mem_take hy))
        · have := HTX.out
          simp only [List.length_cons, List.length_append, List.length_map, List.length_nil, List.length_take]
          omega
      have HJS : Hid (∀ i (h : i < e.tx.length), join (s0 :: ([idText e.h, idText e.p] ++ (e.tx.take (i + 1)).map idText)) [32] = join (s0 :: ([idText e.h, idText e.p] ++ (e.tx.take i).map idText)) [32] ++ [32] ++ idText e.tx[i]) := fun i h => by
        rw [List.take_succ_eq_append_getElem h, List.map_append, ← List.append_assoc]
        exact join_snoc _ _ _
      have HLN : Hid (lineE e = join (s0 :: idText e.h :: idText e.p :: e.tx.map idText) [32]) := lineE_words HGD.out HKQ.out HRST.out
      have HTE : Hid (∀ x ∈ e.tx, x.length = 32) := HWF.out.tx
      have HHL : Hid (e.h.length = 32) := HWF.out.h
      have HPL : Hid (e.p.length = 32) := HWF.out.p
      generalize idText e.h = th at *
      generalize idText e.p = tp at *
      generalize e.h = eh at *
      generalize e.p = ep at *
      have hx2 : ¬ (9223372036854775807 < s0.length + 1 + th.length) := by omega
      have hx3 : ¬ (9223372036854775807 < s0.length + 1 + th.length + 1) := by omega
      have hx4 : ¬ (9223372036854775807 < s0.length + 1 + th.length + 1 + tp.length) := by omega
      have hst : Hid (S s0 ++ (⟨#[32]⟩ : ByteArray) ++ S th ++ (⟨#[32]⟩ : ByteArray) ++ S tp = S (join (s0 :: ([th, tp] ++ (e.tx.take 0).map idText)) [32])) := by
        show _ = _
        rw [show (⟨#[32]⟩ : ByteArray) = S [32] from rfl, S_app, S_app, S_app, S_app, HJ0.out]
      refine wp_region_eager [(0, true), (1, true), (2, true), (3, true), (4, true), (8, true), (9, true), (10, true), (5, false), (6, true), (7, true), (11, false), (12, true), (13, true)] (by kernel_rfl) (by kernel_rfl) (eagerOpen rfl ?_)
      have hy0 : Below y3.heap.size y3 y3.drew := below_drew1 _ _
      repeat (first
        | ((with_reducible refine eagerLoadAt 42 ?_); refine wpEager_load (by rfl) 25 _ rfl w.heap.size 2 rfl (idA eh) _ (fun w' hb => HR0.out w' hb) Tryd.underlying25 rfl (infoId _ (by rw [idA_size, HHL.out])) ?_; (try simp only [Act.put, List.setIfInBounds_toArray, List.set_cons_zero, List.set_cons_succ]); (try refine eagerOpen rfl ?_))
        | ((with_reducible refine eagerLoadAt 48 ?_); refine wpEager_load (by rfl) 25 _ rfl w.heap.size 34 rfl (idA ep) _ (fun w' hb => HRP.out w' hb) Tryd.underlying25 rfl (infoId _ (by rw [idA_size, HPL.out])) ?_; (try simp only [Act.put, List.setIfInBounds_toArray, List.set_cons_zero, List.set_cons_succ]); (try refine eagerOpen rfl ?_))
        | (first | (apply wpEager_take; (· rfl); (· (intro w' hb'; go_simp; try with_reducible rfl)); (try simp only [Act.put, List.setIfInBounds_toArray, List.set_cons_zero, List.set_cons_succ]); (try refine eagerOpen rfl ?_)) | (refine wpEager_skip (by rfl) ?_; (try simp only [Act.put, List.setIfInBounds_toArray, List.set_cons_zero, List.set_cons_succ]); (try refine eagerOpen rfl ?_)) | (refine wpEager_off (by rfl) ?_; (try simp only [Act.put, List.setIfInBounds_toArray, List.set_cons_zero, List.set_cons_succ]); (try refine eagerOpen rfl ?_))))
      (refine wpEager_op (by rfl) (fun K hK => ?_); go_simp; (refine (HTH.out _).mono ?_; rintro x y4 ⟨rfl, hb⟩; have hy1 := hy0.trans hb; clear hb); refine Shut.out hK _ _ (by assumption) ?_; clear hK K; (try simp only [Act.put, List.setIfInBounds_toArray, List.set_cons_zero, List.set_cons_succ]); (try refine eagerOpen rfl ?_))
      repeat (first | (apply wpEager_take; (· rfl); (· (intro w' hb'; go_simp; try with_reducible rfl)); (try simp only [Act.put, List.setIfInBounds_toArray, List.set_cons_zero, List.set_cons_succ]); (try refine eagerOpen rfl ?_)) | (refine wpEager_skip (by rfl) ?_; (try simp only [Act.put, List.setIfInBounds_toArray, List.set_cons_zero, List.set_cons_succ]); (try refine eagerOpen rfl ?_)) | (refine wpEager_off (by rfl) ?_; (try simp only [Act.put, List.setIfInBounds_toArray, List.set_cons_zero, List.set_cons_succ]); (try refine eagerOpen rfl ?_)))
      (refine wpEager_op (by rfl) (fun K hK => ?_); go_simp; (refine (HTP.out _).mono ?_; rintro x y5 ⟨rfl, hb⟩; have hy2 := hy1.trans (hb.mono hy1.size); clear hb); refine Shut.out hK _ _ (by assumption) ?_; clear hK K; (try simp only [Act.put, List.setIfInBounds_toArray, List.set_cons_zero, List.set_cons_succ]); (try refine eagerOpen rfl ?_))
      repeat (first | (apply wpEager_take; (· rfl); (· (intro w' hb'; go_simp; try with_reducible rfl)); (try simp only [Act.put, List.setIfInBounds_toArray, List.set_cons_zero, List.set_cons_succ]); (try refine eagerOpen rfl ?_)) | (refine wpEager_skip (by rfl) ?_; (try simp only [Act.put, List.setIfInBounds_toArray, List.set_cons_zero, List.set_cons_succ]); (try refine eagerOpen rfl ?_)) | (refine wpEager_off (by rfl) ?_; (try simp only [Act.put, List.setIfInBounds_toArray, List.set_cons_zero, List.set_cons_succ]); (try refine eagerOpen rfl ?_)))
      refine eagerEnd ?_
      rw [hst.out]
      have HB5 := Lib.hid (HB3.out.trans (hy2.mono HB3.out.size))
      have HI5 := Lib.hid (HAT3.out.ids.below hy2)
      have hkt5 := Lib.hid (cell_below hkt hy2)
      have HWL5 : Hid (w.heap.size < y5.heap.size) := Nat.lt_of_lt_of_le (Array.getElem?_eq_some_iff.1 HR3.out).1 hy2.size
      clear hy0 hy1 hy2 hst HR0 HRP HTH HTP hx2 hx3 hx4 h2 h3 hk hkb hkt hknn hx1 hsl HEV HAT3 HR3 HB3
      generalize y3.heap.size = gy3 at *
      go_wp2_with fail
      go_loopw [4, 5] (fun v j wr => ∃ i : Nat, i ≤ e.tx.length ∧ j = .int .i64 i ∧ v = .string (S (join (s0 :: ([th, tp] ++ (e.tx.take i).map idText)) [32])) ∧ Below y5.heap.size y5 wr) (fun _ j _ => e.tx.length - (intOf j).toNat)
      case atStart => exact ⟨0, by omega, rfl, rfl, Below.refl _ _⟩
      case round =>
        obtain ⟨i, hi, rfl, rfl, hbr⟩ := hrel
        have HBR := Lib.hid hbr
        have hktr := cell_below hkt5.out hbr
        clear hbr
        have hle5 := HI5.out.sl.le
        have hmx5 := HI5.out.sl.max
        have hct5 := HI5.out.count
        by_cases hlt : i < e.tx.length
        · have hd : decide ((i : Int) < (e.tx.length : Int)) = true := decide_eq_true (by omega)
          have hd2 : decide (i < e.tx.length) = true := decide_eq_true hlt
          obtain ⟨bi, oi, rfl⟩ := HI5.out.sl.addr (by omega) (by omega)
          have HRX := Lib.hid (range_below (HI5.out.range (by omega) i hlt) HBR.out)
          have HLX : Hid ((e.tx[i]'hlt).length = 32) := HTE.out _ (List.getElem_mem hlt)
          have HJ := Lib.hid (HJS.out i hlt)
          have hll := HLS.out i (by omega)
          generalize e.tx[i]'hlt = x at *
          generalize join (s0 :: ([th, tp] ++ (e.tx.take i).map idText)) [32] = acc at *
          have hq1 : ¬ (9223372036854775807 < acc.length + 1) := by omega
          have hq2 : ¬ (9223372036854775807 < acc.length + 1 + (idText x).length) := by have := idT_len x HLX.out; omega
          have HTI := Lib.hid (rId_any (idA x) x wr (idA_toList x) HLX.out)
          generalize idText x = tx at *
          go_wp2_with ((with_reducible refine wpAt 67 ?_); refine loadM (by rfl) 25 _ rfl bi (oi + i * 32) rfl (idA x) _ HRX.out Tryd.underlying25 rfl (infoId _ (by rw [idA_size, HLX.out])) ?_)
          refine HTI.out.mono ?_
          rintro z w7 ⟨rfl, hb7⟩
          have HB7 := Lib.hid (HBR.out.trans (hb7.mono HBR.out.size))
          clear hb7 HTI HRX
          go_wp2_with fail
          skip
          refine ⟨?_, ?measure⟩
          (repeat apply Exists.intro)
          refine ⟨?rel, ?eee⟩
          case eee => rfl
          case rel => exact ⟨i + 1, by omega, by go_num, by rw [HJ.out, ← S_app, ← S_app]; rfl, HB7.out⟩
          case measure => simp [intOf]; omega
        · have hd : decide ((i : Int) < (e.tx.length : Int)) = false := decide_eq_false (by omega)
          have hd2 : decide (i < e.tx.length) = false := decide_eq_false hlt
          obtain rfl : i = e.tx.length := by omega
          have HBX : Hid (Below w.heap.size w wr) := HB5.out.trans (HBR.out.mono HB5.out.size)
          go_wp2_with fail
          skip
          go_ret2
          unfold LineP
          rw [HLN.out, decide_eq_true HGD.out]
          exact ⟨by first | rfl | (rw [← S_app, ← S_app]; rfl), HBX.out⟩
    have m2 : ((kn : Int) == 2) = false := beq_eq_false_iff_ne.2 (by omega)
    have m2' : (kn == 2) = false := beq_eq_false_iff_ne.2 (by omega)
    by_cases k34 : e.k = 3 ∨ e.k = 4
    · have HGD : Hid (Good e) := ⟨HKK.out, HEO.out, fun h56 => by omega⟩
      have HLN : Hid (lineE e = s0 ++ [32] ++ idText e.id) := by
        show _ = _
        rw [lineE_words HGD.out HKQ.out (show restE e = [idText e.id] by unfold restE; rw [if_neg k1, if_neg k2, if_neg (by omega)])]
        simp [Go.Lib.join_cons, Go.Lib.joinTail]
      have HTXT := Lib.hid (rId_any (idA e.id) e.id y3 (idA_toList e.id) HWF.out.id)
      have htl := idT_len e.id HWF.out.id
      have hx2 : ¬ (9223372036854775807 < s0.length + 1 + (idText e.id).length) := by omega
      have HIL : Hid (e.id.length = 32) := HWF.out.id
      have HRI : Hid (y3.rangeAt w.heap.size 67 (idA e.id).toList) := HEV.out.id
      clear htl k1 k2
      generalize idText e.id = tb at *
      generalize e.id = ei at *
      rcases k34 with k3 | k4
      · have m3 : ((kn : Int) == 3) = true := beq_iff_eq.2 (by omega)
        have m3' : (kn == 3) = true := beq_iff_eq.2 (by omega)
        clear k3
        skip
        go_wp2_with ((with_reducible refine wpAt 77 ?_); refine loadM (by rfl) 25 _ rfl w.heap.size 67 rfl (idA ei) _ HRI.out Tryd.underlying25 rfl (infoId _ (by rw [idA_size, HIL.out])) ?_)
        refine HTXT.out.mono ?_
        rintro x w4 ⟨rfl, hb4⟩
        have HBX := Lib.hid (HB3.out.trans (hb4.mono HB3.out.size))
        clear hb4 HTXT
        go_wp2_with fail
        skip
        go_ret2
        unfold LineP
        rw [HLN.out, decide_eq_true HGD.out]
        exact ⟨by first | rfl | (rw [← S_app, ← S_app]; rfl), HBX.out⟩
      · have m3 : ((kn : Int) == 3) = false := beq_eq_false_iff_ne.2 (by omega)
        have m3' : (kn == 3) = false := beq_eq_false_iff_ne.2 (by omega)
        have m4 : ((kn : Int) == 4) = true := beq_iff_eq.2 (by omega)
        have m4' : (kn == 4) = true := beq_iff_eq.2 (by omega)
        clear k4
        skip
        go_wp2_with ((with_reducible refine wpAt 77 ?_); refine loadM (by rfl) 25 _ rfl w.heap.size 67 rfl (idA ei) _ HRI.out Tryd.underlying25 rfl (infoId _ (by rw [idA_size, HIL.out])) ?_)
        refine HTXT.out.mono ?_
        rintro x w4 ⟨rfl, hb4⟩
        have HBX := Lib.hid (HB3.out.trans (hb4.mono HB3.out.size))
        clear hb4 HTXT
        go_wp2_with fail
        skip
        go_ret2
        unfold LineP
        rw [HLN.out, decide_eq_true HGD.out]
        exact ⟨by first | rfl | (rw [← S_app, ← S_app]; rfl), HBX.out⟩
    have m3 : ((kn : Int) == 3) = false := beq_eq_false_iff_ne.2 (by omega)
    have m3' : (kn == 3) = false := beq_eq_false_iff_ne.2 (by omega)
    have m4 : ((kn : Int) == 4) = false := beq_eq_false_iff_ne.2 (by omega)
    have m4' : (kn == 4) = false := beq_eq_false_iff_ne.2 (by omega)
    have HK56 : Hid (e.k = 5 ∨ e.k = 6) := by
      show _ ∨ _
      have := HKK.out
      omega
    have HNE : Hid (e.n ∈ numsE e) := by
      show _ ∈ _
      unfold numsE
      split <;> simp
    have HRST : Hid (restE e = (numsE e).map (fun x => decL x.toNat)) := by show _ = _; unfold restE; rw [if_neg k1, if_neg k2, if_pos HK56.out]
    have HRN := Lib.hid (rnum_any e.n y3)
    clear k1 k2 k34
    by_cases hn : okN e.n
    rotate_left
    · have d0 : decide (okN e.n) = false := decide_eq_false hn
      have HBAD : Hid (¬ Good e) := fun hg => hn (hg.2.2 HK56.out _ HNE.out)
      rw [d0] at HRN
      clear hn d0
      go_wp2_with fail
      refine HRN.out.mono ?_
      rintro x w4 ⟨rfl, rfl⟩
      have HBX := HB3
      go_wp2_with fail
      skip
      -- no line is told: HBX : Below w.heap.size w WX; HBAD : Hid (¬ Good e)
      go_ret2
      obtain ⟨f1, f2⟩ := line_bad HBAD.out
      unfold LineP
      rw [f1, f2]
      exact ⟨rfl, HBX.out⟩
    have d0 : decide (okN e.n) = true := decide_eq_true hn
    obtain ⟨v, hv⟩ : ∃ v : Nat, e.n = (v : Int) := ⟨e.n.toNat, by unfold okN at hn; omega⟩
    have HVN := Lib.hid hv
    have HVB : Hid (v ≤ 65535) := by unfold okN at hn; show _ ≤ _; omega
    have HOKN := Lib.hid hn
    rw [d0] at HRN
    rw [hv] at hknn HRN
    have hwrap : IntKind.u64.wrap (v : Int) = (v : Int) := by rw [IntKind.wrap_u64]; have := HVB.out; omega
    have hdl : (decL v).length ≤ 20 := by have := dec_len v (by have := HVB.out; omega); omega
    have hx2 : ¬ (9223372036854775807 < s0.length + 1 + (decL v).length) := by omega
    have HNV := Lib.hid (fun (y : World) => rNum_any v (by have := HVB.out; omega) y)
    have HDV : Hid (decL e.n.toNat = decL v) := by show _ = _; rw [hv]; rfl
    have HDL := Lib.hid hdl
    clear hn d0 hv
    go_wp2_with fail
    refine HRN.out.mono ?_
    rintro x w4 ⟨rfl, rfl⟩
    clear hdl
    generalize decL v = dv at *
    go_wp2_with fail
    refine (HNV.out y3).mono ?_
    rintro x w5 ⟨rfl, rfl⟩
    have HUC : Hid (∀ i (h : i < 3), y3.cell? ⟨w.heap.size, 100 + i, none⟩ = some (.int .i64 ([e.u0, e.u1, e.u2].getD i 0))) := fun i h => by
      have hi : i = 0 ∨ i = 1 ∨ i = 2 := by omega
      rcases hi with rfl | rfl | rfl
      · exact HEV.out.u0
      · exact HEV.out.u1
      · exact HEV.out.u2
    have HN5 : Hid (e.k = 5 → numsE e = [e.n]) := fun h => by unfold numsE; rw [if_pos h]
    have HN6 : Hid (e.k = 6 → numsE e = e.n :: [e.u0, e.u1, e.u2]) := fun h => by unfold numsE; rw [if_neg (by omega)]
    have HJ0 : Hid (s0 ++ [32] ++ dv = join (s0 :: ([dv] ++ ([e.u0, e.u1, e.u2].take 0).map (fun x => decL x.toNat))) [32]) := by
      show _ = _
      simp [Go.Lib.join_cons, Go.Lib.joinTail]
    have HJS : Hid (∀ i (h : i < 3), join (s0 :: ([dv] ++ ([e.u0, e.u1, e.u2].take (i + 1)).map (fun x => decL x.toNat))) [32] = join (s0 :: ([dv] ++ ([e.u0, e.u1, e.u2].take i).map (fun x => decL x.toNat))) [32] ++ [32] ++ decL ([e.u0, e.u1, e.u2].getD i 0).toNat) := fun i h => by
      rw [take_getD _ i (show i < [e.u0, e.u1, e.u2].length from h), List.map_append, ← List.append_assoc]
      exact join_snoc _ _ _
    have HTS : Hid (∀ i (h : i < 3), [e.u0, e.u1, e.u2].take (i + 1) = [e.u0, e.u1, e.u2].take i ++ [[e.u0, e.u1, e.u2].getD i 0]) := fun i h => take_getD _ i (show i < [e.u0, e.u1, e.u2].length from h)
    have HMEM : Hid (∀ i (h : i < 3), [e.u0, e.u1, e.u2].getD i 0 ∈ [e.u0, e.u1, e.u2]) := fun i h => mem_getD _ i (show i < [e.u0, e.u1, e.u2].length from h)
    have HLS : Hid (∀ i, (∀ x ∈ [e.u0, e.u1, e.u2].take i, okN x) → (join (s0 :: ([dv] ++ ([e.u0, e.u1, e.u2].take i).map (fun x => decL x.toNat))) [32]).length ≤ 5 * 21) := fun i hi => by
      refine Nat.le_trans (join_le _ 20 ?_) ?_
      · intro x hx
        rcases List.mem_cons.1 hx with rfl | hx
        · exact HS0.out
        · rcases List.mem_append.1 hx with hx | hx
          · rw [List.mem_singleton] at hx; rw [hx]; exact HDL.out
          · obtain ⟨y, hy, rfl⟩ := List.mem_map.1 hx
            have h1 := hi y hy
            unfold okN at h1
            exact dec_len y.toNat (by omega)
      · simp only [List.length_cons, List.length_append, List.length_map, List.length_nil, List.length_take]
        omega
    have HTL : Hid ([e.u0, e.u1, e.u2].take 3 = [e.u0, e.u1, e.u2]) := rfl
    have HT0 : Hid ([e.u0, e.u1, e.u2].take 0 = []) := rfl
    obtain ⟨us, hus⟩ : ∃ us, us = [e.u0, e.u1, e.u2] := ⟨_, rfl⟩
    have hst : Hid (S s0 ++ (⟨#[32]⟩ : ByteArray) ++ S dv = S (join (s0 :: ([dv] ++ (us.take 0).map (fun x => decL x.toNat))) [32])) := by
      show _ = _
      rw [show (⟨#[32]⟩ : ByteArray) = S [32] from rfl, S_app, S_app, hus, HJ0.out]
    have HUL : Hid (us.length = 3) := by show _ = _; rw [hus]; rfl
    rw [← hus] at HUC HN6 HJS HTS HMEM HLS HTL HT0
    clear HJ0 hus HEV HRN hx1 hsl hkb hkt hknn hwrap HNV
    go_upto_region 20 with fail
    rw [hst.out]
    clear hx2
    go_wp2_with fail
    go_loopw [4, 6] (fun v j wr => ∃ i : Nat, i ≤ 3 ∧ j = .int .i64 i ∧ v = .string (S (join (s0 :: ([dv] ++ (us.take i).map (fun x => decL x.toNat))) [32])) ∧ (∀ x ∈ us.take i, okN x) ∧ (i = 0 ∨ e.k = 6) ∧ wr = y3) (fun _ j _ => 3 - (intOf j).toNat)
    case atStart => exact ⟨0, by omega, rfl, rfl, (fun x hx => by rw [HT0.out] at hx; cases hx), .inl rfl, rfl⟩
    case round =>
      obtain ⟨i, hi, rfl, rfl, hok, hi6, rfl⟩ := hrel
      have HOK := Lib.hid hok
      have hll := HLS.out i hok
      clear hok
      by_cases k6 : e.k = 6
      · have m6 : ((kn : Int) == 6) = true := beq_iff_eq.2 (by omega)
        have m6' : (kn == 6) = true := beq_iff_eq.2 (by omega)
        have HE6 := Lib.hid k6
        clear k6 hi6
        by_cases hlt : i < 3
        · have hd : decide ((i : Int) < 3) = true := decide_eq_true (by omega)
          have hd2 : decide (i < 3) = true := decide_eq_true hlt
          have hi3 : (i : Int) < 3 := by omega
          have hcu := HUC.out i hlt
          have HJ := Lib.hid (HJS.out i hlt)
          have HTI := Lib.hid (HTS.out i hlt)
          have HMI := Lib.hid (HMEM.out i hlt)
          generalize us.getD i 0 = x at *
          generalize join (s0 :: ([dv] ++ (us.take i).map (fun x => decL x.toNat))) [32] = acc at *
          have HRN := Lib.hid (rnum_any x wr)
          by_cases hx : okN x
          rotate_left
          · have d0 : decide (okN x) = false := decide_eq_false hx
            have HBAD : Hid (¬ Good e) := fun hg => hx (hg.2.2 (.inr HE6.out) _ (by rw [HN6.out HE6.out]; exact List.mem_cons_of_mem _ HMI.out))
            have HBX := HB3
            rw [d0] at HRN
            clear hx d0
            go_wp2_with fail
            refine HRN.out.mono ?_
            rintro x w4 ⟨rfl, rfl⟩
            go_wp2_with fail
            skip
            -- no line is told: HBX : Below w.heap.size w WX; HBAD : Hid (¬ Good e)
            go_ret2
            obtain ⟨f1, f2⟩ := line_bad HBAD.out
            unfold LineP
            rw [f1, f2]
            exact ⟨rfl, HBX.out⟩
          have d0 : decide (okN x) = true := decide_eq_true hx
          obtain ⟨u, hu⟩ : ∃ u : Nat, x = (u : Int) := ⟨x.toNat, by unfold okN at hx; omega⟩
          have HXO := Lib.hid hx
          have hub : u ≤ 65535 := by unfold okN at hx; omega
          rw [d0] at HRN
          have HXU := Lib.hid hu
          rw [hu] at hcu HRN
          have hwrap : IntKind.u64.wrap (u : Int) = (u : Int) := by rw [IntKind.wrap_u64]; omega
          have hdl : (decL u).length ≤ 20 := dec_len u (by omega)
          have HNU := Lib.hid (rNum_any u (by omega) wr)
          have HDU : Hid (decL x.toNat = decL u) := by show _ = _; rw [hu]; rfl
          have hq1 : ¬ (9223372036854775807 < acc.length + 1) := by omega
          have hq2 : ¬ (9223372036854775807 < acc.length + 1 + (decL u).length) := by omega
          clear hx d0 hu hdl hll
          generalize decL u = du at *
          go_wp2_with fail
          refine HRN.out.mono ?_
          rintro x w4 ⟨rfl, rfl⟩
          go_wp2_with fail
          refine HNU.out.mono ?_
          rintro x w4 ⟨rfl, rfl⟩
          go_wp2_with fail
          skip
          refine ⟨?_, ?measure⟩
          (repeat apply Exists.intro)
          refine ⟨?rel, ?eee⟩
          case eee => rfl
          case rel => exact ⟨i + 1, by omega, by go_num, by rw [HJ.out, HDU.out, ← S_app, ← S_app]; rfl, (fun y hy => by
            rw [HTI.out, List.mem_append, List.mem_singleton] at hy
            rcases hy with hy | rfl
            · exact HOK.out y hy
            · exact HXO.out), .inr HE6.out, by first | rfl | trivial⟩
          case measure => simp [intOf]; omega
        · have hd : decide ((i : Int) < 3) = false := decide_eq_false (by omega)
          obtain rfl : i = 3 := by omega
          have HGD : Hid (Good e) := ⟨HKK.out, HEO.out, fun _ y hy => by
            rw [HN6.out HE6.out] at hy
            rcases List.mem_cons.1 hy with rfl | hy
            · exact HOKN.out
            · exact HOK.out y (by rw [HTL.out]; exact hy)⟩
          have HLN : Hid (lineE e = join (s0 :: ([dv] ++ (us.take 3).map (fun x => decL x.toNat))) [32]) := by
            show _ = _
            rw [lineE_words HGD.out HKQ.out HRST.out, HN6.out HE6.out, HTL.out, List.map_cons, HDV.out]; rfl
          have HBX := HB3
          clear hll
          generalize join (s0 :: ([dv] ++ (us.take 3).map (fun x => decL x.toNat))) [32] = acc at *
          go_wp2_with fail
          skip
          go_ret2
          unfold LineP
          rw [HLN.out, decide_eq_true HGD.out]
          exact ⟨by first | rfl | (rw [← S_app, ← S_app]; rfl), HBX.out⟩
      · have k5 : e.k = 5 := HK56.out.resolve_right k6
        obtain rfl : i = 0 := hi6.resolve_right k6
        have m6 : ((kn : Int) == 6) = false := beq_eq_false_iff_ne.2 (by omega)
        have m6' : (kn == 6) = false := beq_eq_false_iff_ne.2 (by omega)
        have HGD : Hid (Good e) := ⟨HKK.out, HEO.out, fun _ y hy => by
          rw [HN5.out k5, List.mem_singleton] at hy
          rw [hy]; exact HOKN.out⟩
        have HLN : Hid (lineE e = join (s0 :: ([dv] ++ (us.take 0).map (fun x => decL x.toNat))) [32]) := by
          show _ = _
          rw [lineE_words HGD.out HKQ.out HRST.out, HN5.out k5, HT0.out, List.map_cons, HDV.out]; rfl
        have HBX := HB3
        clear hll k6 k5 hi6
        generalize join (s0 :: ([dv] ++ (us.take 0).map (fun x => decL x.toNat))) [32] = acc at *
        go_wp2_with fail
        skip
        go_ret2
        unfold LineP
        rw [HLN.out, decide_eq_true HGD.out]
        exact ⟨by first | rfl | (rw [← S_app, ← S_app]; rfl), HBX.out⟩
end Go.Proofs.YtcddgbobbogpgaaDoor.Scr

namespace Go.Proofs.YtcddgbobbogpgaaDoor.Scr
open Go.RowKit Go.Mir Go.Mir.Hx Go.Mir.Parts HexW Rpl

/-- one letter of a string -/
theorem cutStr (s : List UInt8) (i : Nat) (x : UInt8) (hx : s[i]? = some x) (hi : (i : Int) + 1 ≤ 9223372036854775807) : ∀ w0, (Instr.sliceAt 9 (.string (S s)) (some (.int .i64 (i : Int))) (some (.int .i64 ((i : Int) + 1))) none).run Tryd.prog w0 = .ok (.string (S [x])) w0 := by
  intro w0
  have hil : i < s.length := (List.getElem?_eq_some_iff.1 hx).1
  have hb1 : (0 : Int) ≤ (i : Int) + 1 ∧ (i : Int) + 1 ≤ (s.length : Int) := by omega
  have hb3 : i ≤ ((i : Int) + 1).toNat := by omega
  have he : ((i : Int) + 1).toNat = i + 1 := by omega
  have hx' : (S s).extract i (i + 1) = S [x] := by
    obtain ⟨_, rfl⟩ := List.getElem?_eq_some_iff.1 hx
    apply ByteArray.ext
    rw [ByteArray.data_extract]
    apply Array.toList_inj.1
    rw [Array.toList_extract]
    simp [S_data]
    rw [List.drop_eq_getElem_cons hil]; rfl
  simp [Instr.sliceAt, Instr.slice, run_underlying Tryd.underlying9, Instr.sliceBounds, Instr.sliceBound, asIntOf, S_size, hb1, he, hx']
theorem sp_take_len (s : List UInt8) (i : Nat) (h : i < s.length) : sp (s.take (i + 1)) = if s[i] = 32 then sp (s.take i) ++ [[]] else app1 (sp (s.take i)) s[i] := by
  rw [List.take_succ_eq_append_getElem h]
  exact sp_snoc _ _
/-- words of the call's own -/
structure RS (w : World) (ws : List (List UInt8)) (p : Option Addr) (m c : Nat) (X : World) : Prop where
  own : X.ownsRow w.heap.size 9 1 (.slice p m c) m (strV ws)
  len : m = ws.length
  low : Below w.heap.size w X
theorem RS.next {w X Y : World} {ws : List (List UInt8)} {p : Option Addr} {m c : Nat} (h : RS w ws p m c X) (hb : Below X.heap.size X Y) : RS w ws p m c Y :=
  ⟨own_touch h.own (Turns.of_below (S := fun _ => False) hb) (fun _ _ h => h), h.len, h.low.trans (hb.mono h.low.size)⟩
theorem own_one' (w : World) (base : Nat) (s : List UInt8) (hb : base ≤ w.heap.size) : (w.alloc (.cells #[.string (S s)] 9)).ownsRow base 9 1 (.slice (some ⟨w.heap.size, 0, none⟩) 1 1) 1 (strV [s]) :=
  ⟨rfl, .inr ⟨w.heap.size, 1, _, rfl, hb, heap_alloc_last _ _, Nat.le_refl _, by simp [maxLen], rfl, rfl⟩⟩
theorem own_set {w : World} {base t g n c : Nat} {xs : List Value} (h : w.ownsRow base t 1 (.slice (some ⟨g, 0, none⟩) n c) n xs) (j : Nat) (y : Value) : (w.setCell ⟨g, j, none⟩ y).ownsRow base t 1 (.slice (some ⟨g, 0, none⟩) n c) n (xs.set j y) := by
  rcases h.2 with ⟨he, _⟩ | ⟨g', cap, cur, he, hb, hg, hn, hm, hs, ht⟩
  · cases he
  · cases he
    refine ⟨by rw [List.length_set]; exact h.1, .inr ⟨g, c, cur.setIfInBounds j y, rfl, hb, heap_setCell_same _ _ _ _ _ _ hg, hn, hm, by simp [hs], ?_⟩⟩
    rw [Array.toList_setIfInBounds, List.take_set, ht]
theorem own_frozen {w : World} {base t g n c : Nat} {xs : List Value} (h : w.ownsRow base t 1 (.slice (some ⟨g, 0, none⟩) n c) n xs) (j : Nat) : w.frozen? ⟨g, j, none⟩ = false := by
  rcases h.2 with ⟨he, _⟩ | ⟨g', cap, cur, he, hb, hg, hn, hm, hs, ht⟩
  · cases he
  · cases he
    exact frozen_of_row _ _ j _ _ hg
theorem strV_set (ws : List (List UInt8)) (j : Nat) (x : List UInt8) : strV (ws.set j x) = (strV ws).set j (.string (S x)) := by simp [strV, List.map_set]
set_option maxRecDepth 100000 in
set_option maxHeartbeats 3200000 in
theorem rsplit_any (s : List UInt8) (w : World) (hs : s.length < 4294967281) :
    Calls Tryd.prog 35 #[.string (S s)] w fun e w' => ∃ p c, e = .returned (.slice p (sp s).length c) ∧ Ws w' p (sp s).length c (sp s) ∧ Below w.heap.size w w' := by
  have hb1 := Below.allocs w (.cells #[.string ⟨#[]⟩] 9)
  have HRS0 : Hid (RS w (sp (s.take 0)) (some ⟨w.heap.size, 0, none⟩) 1 1 (w.alloc (.cells #[.string ⟨#[]⟩] 9))) :=
    ⟨own_one' w w.heap.size [] (Nat.le_refl _), rfl, hb1⟩
  clear hb1
  go_enter Tryd.func35, Tryd.ntmps35
  go_wp2_with fail
  generalize w.alloc (.cells #[.string ⟨#[]⟩] 9) = w2 at *
  go_loopw [3, 4] (fun v j wr => ∃ (i m : Nat) (p : Option Addr) (c : Nat), i ≤ s.length ∧ j = .int .i64 i ∧ v = .slice p m c ∧ RS w (sp (s.take i)) p m c wr) (fun _ j _ => s.length - (intOf j).toNat)
  case atStart => exact ⟨0, 1, _, 1, Nat.zero_le _, rfl, rfl, HRS0.out⟩
  case round =>
    clear HRS0
    obtain ⟨i, m, p, c, hi, rfl, rfl, hrs⟩ := hrel
    have HRS := Lib.hid hrs
    clear hrs
    by_cases hlt : i < s.length
    · have hdi : decide ((i : Int) < (s.length : Int)) = true := decide_eq_true (by omega)
      have hdi2 : decide (i < s.length) = true := decide_eq_true hlt
      have HSN := Lib.hid (sp_take_len s i hlt)
      have hgx : s[i]? = some s[i] := List.getElem?_eq_getElem hlt
      have hlen : (sp (s.take i)).length ≤ s.length + 1 := by
        have h1 : ∀ l : List UInt8, (sp l).length ≤ l.length + 1 := by
          intro l
          induction l with
          | nil => exact Nat.le_refl _
          | cons c r ih =>
            by_cases hc : c = 32
            · subst hc; rw [sp_blank, List.length_cons, List.length_cons]; omega
            · obtain ⟨h, t, e⟩ := sp_form r
              rw [sp_sign hc e]
              rw [e] at ih
              simp only [List.length_cons] at ih ⊢
              omega
        have := h1 (s.take i)
        rw [List.length_take] at this
        omega
      have hpos : 1 ≤ m := by rw [HRS.out.len]; exact sp_pos _
      have hm1 : m ≤ s.length + 1 := by rw [HRS.out.len]; exact hlen
      clear hlen
      generalize hws : sp (s.take i) = ws at *
      have hsl := cutStr s i s[i] hgx (by omega)
      have hu : ∀ x : UInt8, ((x.toNat : Int) == 32) = decide (x = 32) := by intro x; rw [Bool.eq_iff_iff, beq_iff_eq, decide_eq_true_eq, ← UInt8.toNat_inj]; show (x.toNat : Int) = 32 ↔ x.toNat = 32; omega
      by_cases hx : s[i] = 32
      · have hb : ((s[i].toNat : Int) == 32) = true := by rw [hu]; exact decide_eq_true hx
        rw [if_pos hx] at HSN
        have hB7 := Below.allocs wr (.cells #[.string ⟨#[]⟩] 9)
        have HRS1 := Lib.hid (HRS.out.next hB7)
        have HX7 : Hid (Ws (wr.alloc (.cells #[.string ⟨#[]⟩] 9)) (some ⟨wr.heap.size, 0, none⟩) 1 1 [[]]) := Ws.row (ls := [[]]) (heap_alloc_last wr _) rfl (by show 1 ≤ _; omega)
        have HLN := Lib.hid HRS.out.len
        clear hB7 hsl hws hx hu
        go_wp2_with (at_builtin; refine wpList_append_nx rfl _ _ 65 rfl (base := w.heap.size) Tryd.underlying65 infoStr rfl (by omega) rfl HRS1.out.own rfl HX7.out (strV_one _) ⟨by omega, by omega⟩ HRS1.out.low.size ?_)
        intro p' c' w8 ho8 hgr hnx _
        have hb8 := own_below HRS1.out.own hgr HRS1.out.low.size
        have HRS8 : Hid (RS w (sp (s.take (i + 1))) p' (m + 1) c' w8) := by
          refine ⟨?_, ?_, HRS1.out.low.trans hb8⟩
          · rw [HSN.out]
            unfold strV at ho8 ⊢
            rw [List.map_append]
            exact ho8
          · rw [HSN.out, List.length_append, ← HLN.out]; rfl
        clear ho8 hgr hnx hb8 HX7 HRS HRS1
        go_wp2_with fail
        go_roundw
        case rel => exact ⟨i + 1, m + 1, p', c', by omega, by go_num, rfl, HRS8.out⟩
        case measure => simp [intOf]; omega
      · have hb : ((s[i].toNat : Int) == 32) = false := by rw [hu]; exact decide_eq_false hx
        rw [if_neg hx] at HSN
        have HLN := Lib.hid HRS.out.len
        obtain ⟨g, cap, hv, hbg, _⟩ := own_some HRS.out.own (fun e => by cases e; omega)
        obtain ⟨rfl, rfl⟩ : p = some ⟨g, 0, none⟩ ∧ c = cap := by cases hv; exact ⟨rfl, rfl⟩
        obtain ⟨k, hk⟩ : ∃ k, m - 1 = k := ⟨_, rfl⟩
        have hj : k < ws.length := by rw [← HLN.out]; omega
        have hcl := Ws.str (own_ws HRS.out.own) hj
        have hAP : app1 ws s[i] = ws.set k (ws[k] ++ [s[i]]) := by unfold app1; rw [← HLN.out, hk, List.getElem?_eq_getElem hj]; rfl
        rw [hAP] at HSN
        have hyl : ¬ (9223372036854775807 < ws[k].length + 1) := by have h1 := sp_len (s.take i) ws[k] (by rw [hws]; exact List.getElem_mem hj); rw [List.length_take] at h1; omega
        generalize ws[k] = y at *
        rw [Nat.zero_add] at hcl
        have hcd : wr.drew.cell? ⟨g, k, none⟩ = some (.string (S y)) := cell_below hcl (below_drew1 _ _)
        have hfz : wr.drew.frozen? ⟨g, k, none⟩ = false := own_frozen (own_touch HRS.out.own (Turns.of_below (S := fun _ => False) (below_drew1 wr.heap.size wr)) (fun _ _ h => h)) _
        have hm0 : (m : Int) - 1 = (k : Int) := by omega
        have hk2 : k < m := by omega
        have hk3 : (k : Int) < (m : Int) := by omega
        have hwr : IntKind.i64.wrap (k : Int) = (k : Int) := by rw [IntKind.wrap_i64]; omega
        have hwi : IntKind.i64.wrap ((i : Int) + 1) = (i : Int) + 1 := by rw [IntKind.wrap_i64]; omega
        clear hx hu hws hAP hv hcl hj hk
        go_upto_region 7 with fail
        refine wp_region_tree (fun _ => True) (.take 0 (.take 1 (.take 2 (.take 3 (.take 4 (.take 5 (.take 6 (.take 7 (.take 8 (.take 10 (.take 11 (.take 12 (.take 13 (.take 14 (.one 9 (.take 15 (.take 16 (.one 17 .nil)))))))))))))))))) (by kernel_rfl) (by kernel_rfl) trivial ?_
        repeat (apply tree_take; (· rfl); (· rfl); (· (intro w' hb'; go_simp; try with_reducible rfl)); try simp only [Act.put, List.setIfInBounds_toArray, List.set_cons_zero, List.set_cons_succ])
        refine tree_one rfl (by rfl) (fun K hK => ?_)
        go_simp
        refine Shut.out hK _ _ trivial ?_
        clear hK K
        try simp only [Act.put, List.setIfInBounds_toArray, List.set_cons_zero, List.set_cons_succ]
        repeat (apply tree_take; (· rfl); (· rfl); (· (intro w' hb'; go_simp; try with_reducible rfl)); try simp only [Act.put, List.setIfInBounds_toArray, List.set_cons_zero, List.set_cons_succ])
        refine tree_one rfl (by rfl) (fun K hK => ?_)
        go_simp
        refine Shut.out hK _ _ trivial ?_
        clear hK K
        try simp only [Act.put, List.setIfInBounds_toArray, List.set_cons_zero, List.set_cons_succ]
        refine tree_nil ?_
        have HRD := Lib.hid (HRS.out.next (below_drew1 wr.heap.size wr))
        have HT := Lib.hid ((Turns.refl (fun q => q = g) wr.drew).setCell (p := ⟨g, k, none⟩) (fun _ => rfl) (.string (S (y ++ [s[i]]))))
        have HRS8 : Hid (RS w (sp (s.take (i + 1))) (some ⟨g, 0, none⟩) m c (wr.drew.setCell ⟨g, k, none⟩ (.string (S (y ++ [s[i]]))))) := by
          refine ⟨?_, ?_, HRD.out.low.trans (HT.out.below HRD.out.low.size (fun q hq => by have hq : q = g := hq; omega))⟩
          · rw [HSN.out, strV_set]
            exact own_set HRD.out.own k _
          · rw [HSN.out, List.length_set]; exact HLN.out
        clear HRS HRD HT
        go_wp2_with fail
        go_roundw
        case rel => exact ⟨i + 1, m, some ⟨g, 0, none⟩, c, by omega, by go_num, rfl, HRS8.out⟩
        case measure => simp [intOf]; omega
    · obtain rfl : i = s.length := by omega
      have hdi : decide ((s.length : Int) < (s.length : Int)) = false := decide_eq_false (by omega)
      have hdi2 : decide (s.length < s.length) = false := decide_eq_false (by omega)
      rw [List.take_length] at HRS
      have hml : m = (sp s).length := HRS.out.len
      subst hml
      have HWX := Lib.hid (own_ws HRS.out.own)
      have HLX := Lib.hid HRS.out.low
      clear hlt hi
      go_wp2_with fail
      go_ret
      exact ⟨p, c, rfl, HWX.out, HLX.out⟩
end Go.Proofs.YtcddgbobbogpgaaDoor.Scr

namespace Go.Proofs.YtcddgbobbogpgaaDoor.Scr
open Go.RowKit Go.Mir Go.Mir.Hx Go.Mir.Parts HexW Rpl

theorem EW.next {w0 x y : World} {g : Nat} {t : TypeId} {e : Ev} {pb : Option Addr} {cb : Nat} {q : Option Addr} {c : Nat} (h : EW w0 g t e pb cb q c x) (hb : Below x.heap.size x y) : EW w0 g t e pb cb q c y :=
  ⟨Below.keepOld hb h.row, h.wf, h.turn.trans (Turns.of_below hb) (fun _ _ h => h)⟩
theorem readK_2 (r : List (List UInt8)) : readK 2 r = (idsB r).bind fun l => if 2 ≤ l.length then some ⟨2, [], l.getD 0 [], l.getD 1 [], l.drop 2, zeros, 0, 0, 0, 0⟩ else none := by
  unfold readK
  rw [if_neg (by omega), if_pos rfl]
theorem readK_3 (k : Nat) (hk : k = 3 ∨ k = 4) (r : List (List UInt8)) : readK k r = (idsB r).bind fun l => if l.length = 1 then some ⟨(k : Int), [], zeros, zeros, [], l.getD 0 [], 0, 0, 0, 0⟩ else none := by
  unfold readK
  rw [if_neg (by omega), if_neg (by omega), if_pos hk]
theorem ap_none (n : Nat) : (∀ a, (none : Option Addr) = some a → n < a.block) ∧ (∀ a, (none : Option Addr) = some a → n < a.block) := ⟨fun _ h => (nomatch h), fun _ h => (nomatch h)⟩
set_option maxRecDepth 100000 in
set_option maxHeartbeats 6400000 in
theorem rread_any (s : List UInt8) (w : World) (hs : s.length ≤ 900000) : Calls Tryd.prog 12 #[.string (S s)] w (ReadP (readE s) w) := by
  have hz := zeroF
  have a1 := heap_alloc_last w (.cells zE 37)
  have a4 := Below.allocs w (.cells zE 37)
  have HR1 := Lib.hid a1
  have HB := Lib.hid a4
  have HBU : Hid (Tryd.prog.built 37 [] = some zE) := built_f0
  have HZO : Hid (zE.all (·.oneCell') = true) := evA_one _ _ _ _ _
  have HZS : Hid (zE.size = 103) := zE_size
  have HSP := Lib.hid (rsplit_any s (w.alloc (.cells zE 37)) (by omega))
  obtain ⟨s0, r, hsp⟩ := sp_form s
  obtain ⟨k, hkk⟩ : ∃ k, kindB s0 = k := ⟨_, rfl⟩
  have HRE : Hid (readE s = readK k r) := by
    show _ = _
    unfold readE
    rw [hsp, ← hkk]; rfl
  have hln := sp_length s
  have HWL := Lib.hid (sp_len s)
  rw [hsp] at hln HSP HWL
  rw [List.length_cons] at hln
  have HLN : Hid (r.length ≤ 1000000) := by show _ ≤ _; omega
  have HSL : Hid (s.length ≤ 900000) := hs
  have hsz2 : w.heap.size + 1 ≤ (w.alloc (.cells zE 37)).heap.size := (Array.getElem?_eq_some_iff.1 a1).1
  clear a1 a4 hs hsp hln
  go_enter Tryd.func12, Tryd.ntmps12
  go_upto_region 1 with fail
  generalize w.alloc (.cells zE 37) = w2 at *
  go_wp2_with fail
  refine HSP.out.mono ?_
  rintro x w3 ⟨p, c, rfl, hws, hb3⟩
  have HR3 := Lib.hid (Below.keepOld hb3 HR1.out)
  have HB3 := Lib.hid (HB.out.trans (hb3.mono HB.out.size))
  have HWS := Lib.hid hws
  have hcc := hws.le
  have hcm := hws.max
  obtain ⟨b, o, rfl⟩ := hws.addr (by simp) (by simp at hcc; omega)
  have hc0 : w3.cell? ⟨b, o, none⟩ = some (.string (S s0)) := Ws.str (ls := s0 :: r) hws (j := 0) (by simp)
  have hsz3 : w.heap.size + 1 ≤ w3.heap.size := Nat.le_trans hsz2 hb3.size
  obtain ⟨NL, hNL⟩ : ∃ NL, (s0 :: r).length = NL := ⟨_, rfl⟩
  have HNL := Lib.hid hNL
  rw [hNL] at HWS hcc ⊢
  have h1n : 1 ≤ NL := by rw [← hNL]; simp
  have h0i : (0 : Int) < (NL : Int) := by omega
  have h1i : (1 : Int) ≤ (NL : Int) := by omega
  have h0n : 0 < NL := by omega
  have hRK := rkind_any s0 w3
  rw [hkk] at hRK
  have HRK := Lib.hid hRK
  have hcut := cutSR HWS.out 1 1 rfl h1n
  have HDR := Lib.hid (ws_drop HWS.out 1 h1n)
  clear hws hb3 HSP HB HR1 hNL hRK
  go_wp2_with fail
  refine HRK.out.mono ?_
  rintro x w4 ⟨rfl, hb4⟩
  have HR4 := Lib.hid (Below.keepOld hb4 HR3.out)
  have HB4 := Lib.hid (HB3.out.trans (hb4.mono HB3.out.size))
  have HDR4 := Lib.hid (HDR.out.below hb4)
  have hsz4 : w.heap.size + 1 ≤ w4.heap.size := Nat.le_trans hsz3 hb4.size
  have HFK := Lib.hid (built_fk (k : Int))
  have HKI : Hid (i64B (k : Int)) := by
    have : k ≤ 6 := by
      by_cases h0 : k = 0
      · omega
      · exact (kind_name hkk h0).2
    exact small_i64 (by omega)
  have HAS : Hid ((evA (Ev.zero (k : Int)) none 0 none 0).size = 103) := evA_size (zero_wf HKI.out) _ _ _ _
  have HAO : Hid ((evA (Ev.zero (k : Int)) none 0 none 0).all (·.oneCell') = true) := evA_one _ _ _ _ _
  clear hb4 hc0 HWS HRK HDR HB3 HR3
  generalize hAA : evA (Ev.zero (k : Int)) none 0 none 0 = A at HFK HAS HAO
  go_upto_region 3 with (first
    | refine Rdr.wpList_build rfl 37 _ rfl [(0, .int .i64 (k : Int))] rfl _ HFK.out ?_
    | refine wpList_store_row rfl 37 _ _ rfl w4.heap.size A rfl rfl 37 zE (heap_alloc_last _ _) (infoF _ HAS.out) (by rw [HAS.out]; exact HZS.out) HAO.out ?_)
  have hEB := setRow_heap _ _ _ A _ _ (heap_alloc_last w4 (.cells zE 37))
  have hbE := box_below w4 zE A 37
  have HR5 := Lib.hid (Below.keepOld hbE HR4.out)
  have HB5 := Lib.hid (HB4.out.trans (hbE.mono HB4.out.size))
  have hdr5 := HDR4.out.below hbE
  have HE5 : Hid (w4.heap.size < ((w4.alloc (.cells zE 37)).setRow w4.heap.size A).heap.size) := (Array.getElem?_eq_some_iff.1 hEB).1
  obtain ⟨q, hq⟩ : ∃ q, cutS (some ⟨b, o, none⟩) c 1 = q := ⟨_, rfl⟩
  obtain ⟨n, hn⟩ : ∃ n, NL - 1 = n := ⟨_, rfl⟩
  obtain ⟨cq, hc⟩ : ∃ cq, c - 1 = cq := ⟨_, rfl⟩
  rw [hq, hn, hc] at hdr5 hcut
  have hnr : n = r.length := by rw [← hn, ← HNL.out]; simp
  subst hnr
  have HW5 := Lib.hid hdr5
  clear hbE hdr5 hq hn hc HDR4 HR4 HB4 HFK
  generalize (w4.alloc (.cells zE 37)).setRow w4.heap.size A = w5 at *
  generalize w4.heap.size = E at *
  have HEW : Hid (EW w5 E 37 (Ev.zero (k : Int)) none 0 none 0 w5) := ⟨by rw [hAA]; exact hEB, zero_wf HKI.out, Turns.refl _ _⟩
  have HSE : Hid (w.heap.size + 1 ≤ E) := hsz4
  have hk0 := HEW.out.cells.k
  have HKK := Lib.hid hkk
  have hle := HW5.out.le
  have hmx := HW5.out.max
  have HLL : Hid (∀ x ∈ r, x.length ≤ 1099511627776) := fun x hx => by have := HWL.out x (List.mem_cons_of_mem _ hx); have := HSL.out; omega
  have hrl := HLN.out
  clear hEB hAA HAS HAO hsz2 hsz3 hsz4 hcm hcc h0i h1i h0n h1n HNL HWL
  by_cases hk1 : k = 1
  · subst hk1
    skip
    by_cases h1 : r.length = 1
    rotate_left
    · obtain ⟨q1, q2, q3, q4⟩ := (len_facts r 1).2 h1
      have HNO : Hid (readK 1 r = none) := by show _ = _; unfold readK; rw [if_pos rfl, if_neg h1]
      have HRX := HR5
      have HBX := HB5
      clear h1
      skip
      go_wp2_with (first
        | refine Rdr.wpList_build rfl 37 _ rfl [] rfl _ HBU.out ?_
        | refine wpList_store_row rfl 37 _ _ rfl w.heap.size zE rfl rfl 37 zE HRX.out (infoF _ HZS.out) rfl HZO.out ?_)
      have HSR := Lib.hid (setRow_heap _ _ _ zE _ _ HRX.out)
      refine bodyPost_ret (results_ct rfl _ _ _ _ _ _ _ rfl HSR.out Tryd.underlying37 rfl (infoF _ HZS.out)) rfl ?_
      rw [HRE.out, HNO.out]
      exact ⟨none, 0, none, 0, rfl, zero_at _ 0 zero_i64, below_setRow HBX.out (by omega) _⟩
    obtain ⟨z, rfl⟩ := len1 h1
    have hle : 1 ≤ cq := hle
    obtain ⟨b1, o1, rfl⟩ := HW5.out.addr (by show 0 < 1; omega) (by omega)
    have hcx : w5.cell? ⟨b1, o1, none⟩ = some (.string (S z)) := Ws.str HW5.out (j := 0) (by show 0 < 1; omega)
    have HBY := Lib.hid (rBytes_any z w5 (HLL.out z (by simp)))
    clear h1
    go_wp2_with fail
    refine HBY.out.mono ?_
    rintro x w6 ⟨hb, hcase⟩
    have HR6 := Lib.hid (Below.keepOld hb HR5.out)
    have HB6 := Lib.hid (HB5.out.trans (hb.mono HB5.out.size))
    have HE6 := Lib.hid (HEW.out.next hb)
    have HY6 := Lib.hid (fun i (h : i = E) => (show w.heap.size ≤ i by have := HSE.out; omega))
    have hE1 : w6.cell? ⟨E, 1, none⟩ = some (.slice none 0 0) := HE6.out.cells.b
    have hfz : ∀ j, w6.frozen? ⟨E, j, none⟩ = false := fun j => HE6.out.frozen j
    have hs5 : w.heap.size < w5.heap.size := by have := HSE.out; have := HE5.out; omega
    clear hb hcx HBY
    rcases hcase with ⟨y, p, cc, hy, rfl, hbs, hap⟩ | ⟨hy, rfl⟩
    · have HEX := Lib.hid (HE6.out.bytes y p cc)
      have HTX : Hid (Turns (fun j => j = E) w6 (w6.setCell ⟨E, 1, none⟩ (.slice p y.length cc))) := (Turns.refl (fun j => j = E) w6).setCell (p := ⟨E, 1, none⟩) (fun _ => rfl) _
      have HR7 := Lib.hid (HTX.out.keep HR6.out (by show ¬ _ = E; have := HSE.out; omega))
      have HB7 : Hid (Below w.heap.size w (w6.setCell ⟨E, 1, none⟩ (.slice p y.length cc))) := HB6.out.trans (HTX.out.below HB6.out.size HY6.out)
      have HBSY := Lib.hid (sl_turn hbs HTX.out (fun a ha hg => by have h1 := hap a ha; have h2 := HE5.out; have hg : a.block = E := hg; omega))
      have HYES : Hid (readK 1 [z] = some ⟨1, y, zeros, zeros, [], zeros, 0, 0, 0, 0⟩) := by show _ = _; rw [rk1, hy]; rfl
      have HAP := Lib.hid hap
      clear hbs hap hy
      skip
      -- the row of E told: A1 = evA EV.., HROW, HRX, HBX, HEX (its EW at WX), HYES
      obtain ⟨A1, hA1⟩ : ∃ A1, A1 = evA { Ev.zero ((1 : Nat) : Int) with b := y } p cc none 0 := ⟨_, rfl⟩
      have HAS1 : Hid (A1.size = 103) := by show _ = _; rw [hA1]; exact evA_size HEX.out.wf _ _ _ _
      have HAO1 : Hid (A1.all (·.oneCell') = true) := by show _ = _; rw [hA1]; exact evA_one _ _ _ _ _
      have HROW := Lib.hid HEX.out.row
      rw [← hA1] at HROW
      have HA1 := Lib.hid hA1
      clear hA1
      have hkp := rkeep_any A1 true (w6.setCell ⟨E, 1, none⟩ (.slice p y.length cc)) HAS1.out HAO1.out
      rw [if_pos rfl] at hkp
      have HKP := Lib.hid hkp
      clear hkp
      go_wp2_with (refine wpList_load_row rfl 37 _ rfl E rfl 37 A1 (0, 0) _ HROW.out Tryd.underlying37 rfl (infoF _ HAS1.out) ?_)
      refine HKP.out.mono ?_
      rintro x w8 ⟨rfl, hb8⟩
      have HRX := Lib.hid (Below.keepOld hb8 HR7.out)
      have HBX := Lib.hid (HB7.out.trans (hb8.mono HB7.out.size))
      have HBSX := Lib.hid (HBSY.out.below hb8)
      have HISX : Hid (Is w8 none 0 0 32 []) := Is.nil _ _
      have HAPX : Hid ((∀ a, p = some a → w.heap.size < a.block) ∧ (∀ a, (none : Option Addr) = some a → w.heap.size < a.block)) := ⟨fun a ha => by have := HAP.out a ha; omega, fun _ h => (nomatch h)⟩
      clear hb8 HKP
      go_wp2_with (refine wpList_store_row rfl 37 _ _ rfl w.heap.size A1 rfl rfl 37 zE HRX.out (infoF _ HAS1.out) (by rw [HAS1.out]; exact HZS.out) HAO1.out ?_)
      skip
      have HSR := Lib.hid (setRow_heap _ _ _ A1 _ _ HRX.out)
      have HTS : Hid (Turns (fun j => j = w.heap.size) w8 (World.setRow w8 w.heap.size A1)) := turns_setRow _ _ _
      refine bodyPost_ret (results_ct rfl _ _ _ _ _ _ _ rfl HSR.out Tryd.underlying37 rfl (infoF _ HAS1.out)) rfl ?_
      rw [HRE.out, HYES.out]
      exact ⟨_, _, _, _, by rw [HA1.out]; rfl, ⟨HEX.out.wf, sl_turn HBSX.out HTS.out (fun a ha hg => by have h1 := HAPX.out.1 a ha; have hg : a.block = w.heap.size := hg; omega), is_turn HISX.out HTS.out (fun a ha hg => by have h1 := HAPX.out.2 a ha; have hg : a.block = w.heap.size := hg; omega)⟩, below_setRow HBX.out (by omega) _⟩
    · have HEX := Lib.hid (HE6.out.bytes [] none 0)
      have HTX : Hid (Turns (fun j => j = E) w6 (w6.setCell ⟨E, 1, none⟩ (.slice none 0 0))) := (Turns.refl (fun j => j = E) w6).setCell (p := ⟨E, 1, none⟩) (fun _ => rfl) _
      have HR7 := Lib.hid (HTX.out.keep HR6.out (by show ¬ _ = E; have := HSE.out; omega))
      have HB7 : Hid (Below w.heap.size w (w6.setCell ⟨E, 1, none⟩ (.slice none 0 0))) := HB6.out.trans (HTX.out.below HB6.out.size HY6.out)
      have HNO : Hid (readK 1 [z] = none) := by show _ = _; rw [rk1, hy]; rfl
      clear hy
      skip
      -- the row of E told: A1 = evA EV.., HROW, HRX, HBX, HEX (its EW at WX), HYES
      obtain ⟨A1, hA1⟩ : ∃ A1, A1 = evA { Ev.zero ((1 : Nat) : Int) with b := [] } none 0 none 0 := ⟨_, rfl⟩
      have HAS1 : Hid (A1.size = 103) := by show _ = _; rw [hA1]; exact evA_size HEX.out.wf _ _ _ _
      have HAO1 : Hid (A1.all (·.oneCell') = true) := by show _ = _; rw [hA1]; exact evA_one _ _ _ _ _
      have HROW := Lib.hid HEX.out.row
      rw [← hA1] at HROW
      have HA1 := Lib.hid hA1
      clear hA1
      have hkp := rkeep_any A1 false (w6.setCell ⟨E, 1, none⟩ (.slice none 0 0)) HAS1.out HAO1.out
      rw [if_neg (by decide)] at hkp
      have HKP := Lib.hid hkp
      clear hkp
      go_wp2_with (refine wpList_load_row rfl 37 _ rfl E rfl 37 A1 (0, 0) _ HROW.out Tryd.underlying37 rfl (infoF _ HAS1.out) ?_)
      refine HKP.out.mono ?_
      rintro x w8 ⟨rfl, hb8⟩
      have HRX := Lib.hid (Below.keepOld hb8 HR7.out)
      have HBX := Lib.hid (HB7.out.trans (hb8.mono HB7.out.size))
      clear hb8 HKP
      go_wp2_with (refine wpList_store_row rfl 37 _ _ rfl w.heap.size zE rfl rfl 37 zE HRX.out (infoF _ HZS.out) rfl HZO.out ?_)
      have HSR := Lib.hid (setRow_heap _ _ _ zE _ _ HRX.out)
      refine bodyPost_ret (results_ct rfl _ _ _ _ _ _ _ rfl HSR.out Tryd.underlying37 rfl (infoF _ HZS.out)) rfl ?_
      rw [HRE.out, HNO.out]
      exact ⟨none, 0, none, 0, rfl, zero_at _ 0 zero_i64, below_setRow HBX.out (by omega) _⟩
  by_cases hk2 : k = 2
  · subst hk2
    have HID := Lib.hid (rids_any q r.length cq r w5 HW5.out hrl HLL.out)
    clear hk1
    go_wp2_with fail
    refine HID.out.mono ?_
    rintro x w6 ⟨hb, hcase⟩
    have HR6 := Lib.hid (Below.keepOld hb HR5.out)
    have HB6 := Lib.hid (HB5.out.trans (hb.mono HB5.out.size))
    have HE6 := Lib.hid (HEW.out.next hb)
    have hs5 : w.heap.size < w5.heap.size := by have := HSE.out; have := HE5.out; omega
    clear hb HID
    rcases hcase with ⟨l, p, cc, hl, rfl, his, hap⟩ | ⟨hl, rfl⟩
    rotate_left
    · have HNO : Hid (readK 2 r = none) := by show _ = _; rw [readK_2, hl]; rfl
      have HRX := HR6
      have HBX := HB6
      clear hl
      skip
      go_wp2_with (first
        | refine Rdr.wpList_build rfl 37 _ rfl [] rfl _ HBU.out ?_
        | refine wpList_store_row rfl 37 _ _ rfl w.heap.size zE rfl rfl 37 zE HRX.out (infoF _ HZS.out) rfl HZO.out ?_)
      have HSR := Lib.hid (setRow_heap _ _ _ zE _ _ HRX.out)
      refine bodyPost_ret (results_ct rfl _ _ _ _ _ _ _ rfl HSR.out Tryd.underlying37 rfl (infoF _ HZS.out)) rfl ?_
      rw [HRE.out, HNO.out]
      exact ⟨none, 0, none, 0, rfl, zero_at _ 0 zero_i64, below_setRow HBX.out (by omega) _⟩
    by_cases h1 : 2 ≤ l.length
    rotate_left
    · have q1 : decide ((l.length : Int) < 2) = true := decide_eq_true (by omega)
      have q2 : decide (l.length < 2) = true := decide_eq_true (by omega)
      have HNO : Hid (readK 2 r = none) := by show _ = _; rw [readK_2, hl]; show (if 2 ≤ l.length then _ else _) = _; rw [if_neg h1]
      have HRX := HR6
      have HBX := HB6
      clear hl h1 his hap
      skip
      go_wp2_with (first
        | refine Rdr.wpList_build rfl 37 _ rfl [] rfl _ HBU.out ?_
        | refine wpList_store_row rfl 37 _ _ rfl w.heap.size zE rfl rfl 37 zE HRX.out (infoF _ HZS.out) rfl HZO.out ?_)
      have HSR := Lib.hid (setRow_heap _ _ _ zE _ _ HRX.out)
      refine bodyPost_ret (results_ct rfl _ _ _ _ _ _ _ rfl HSR.out Tryd.underlying37 rfl (infoF _ HZS.out)) rfl ?_
      rw [HRE.out, HNO.out]
      exact ⟨none, 0, none, 0, rfl, zero_at _ 0 zero_i64, below_setRow HBX.out (by omega) _⟩
    have q1 : decide ((l.length : Int) < 2) = false := decide_eq_false (by omega)
    have q2 : decide (l.length < 2) = false := decide_eq_false (by omega)
    obtain ⟨z0, z1, zs, rfl⟩ : ∃ z0 z1 zs, l = z0 :: z1 :: zs := by
      match l, h1 with
      | a :: b :: t, _ => exact ⟨a, b, t, rfl⟩
    have hcc := his.sl.le
    have hcm := his.sl.max
    obtain ⟨b1, o1, rfl⟩ := his.sl.addr (by simp) (by omega)
    have HR0 := Lib.hid (his.range (by omega) 0 (by simp))
    have HRG := Lib.hid (his.range (by omega) 1 (by simp))
    have HL0 : Hid (z0.length = 32) := his.each z0 (by simp)
    have HL1 : Hid (z1.length = 32) := his.each z1 (by simp)
    have HTXS : Hid (∀ x ∈ zs, x.length = 32) := fun x hx => his.each x (List.mem_cons_of_mem _ (List.mem_cons_of_mem _ hx))
    obtain ⟨NL, hNL⟩ : ∃ NL, (z0 :: z1 :: zs).length = NL := ⟨_, rfl⟩
    have hcut2 := cutIR his 2 2 rfl h1
    have HDR := Lib.hid (is_drop his 2 h1)
    have HYES : Hid (readK 2 r = some ⟨2, [], z0, z1, zs, zeros, 0, 0, 0, 0⟩) := by
      show _ = _
      rw [readK_2, hl]
      show (if 2 ≤ (z0 :: z1 :: zs).length then some (Ev.mk 2 [] z0 z1 zs zeros 0 0 0 0) else none) = _
      rw [if_pos h1]
    have HZN : Hid (NL - 2 = zs.length) := by show _ = _; rw [← hNL]; simp
    rw [hNL] at hcut2 HDR hcc h1 q1 q2 ⊢
    have h2i : (2 : Int) ≤ (NL : Int) := by omega
    have h0i : (0 : Int) < (NL : Int) := by omega
    have h1i : (1 : Int) < (NL : Int) := by omega
    have h0n : 0 < NL := by omega
    have h1n : 1 < NL := by omega
    have HBL : Hid (w5.heap.size ≤ b1) := hap _ rfl
    have HBG : Hid (b1 ≠ E) := fun e => by have h1 : w5.heap.size ≤ b1 := hap _ rfl; have := HE5.out; omega
    have HRG0 : Hid (∀ w', Turns (fun j => j = E) w6 w' → w'.rangeAt b1 o1 (idA z0).toList) := fun w' ht j v hv => by
      have := HR0.out j v hv
      rw [Nat.zero_mul, Nat.add_zero] at this
      exact ht.cell this HBG.out
    have HRG1 : Hid (∀ w', Turns (fun j => j = E) w6 w' → w'.rangeAt b1 (o1 + 32) (idA z1).toList) := fun w' ht j v hv => by
      have := HRG.out j v hv
      rw [Nat.one_mul] at this
      exact ht.cell this HBG.out
    have HED : Hid (EW w5 E 37 (Ev.zero ((2 : Nat) : Int)) none 0 none 0 w6.drew) := HE6.out.next (below_drew1 w6.heap.size w6)
    have HTH := Lib.hid (HED.out.there 2 65 (by omega))
    have HEX := Lib.hid (HED.out.block z0 z1 zs HL0.out HL1.out HTXS.out (cutI (some ⟨b1, o1, none⟩) cc 2) (cc - 2))
    have HBK := Lib.hid (built_blk z0 z1 (cutI (some ⟨b1, o1, none⟩) cc 2) zs.length (cc - 2) HL0.out HL1.out)
    have HBS : Hid ((blkA z0 z1 (cutI (some ⟨b1, o1, none⟩) cc 2) zs.length (cc - 2)).size = 65) := blkA_size HL0.out HL1.out _ _ _
    rw [HZN.out] at hcut2 HDR
    clear hl his hap hNL HR0 HRG
    go_upto_region 15 with fail
    refine wp_region_tree (fun w' => Turns (fun j => j = E) w6 w') (.take 0 (.take 1 (.take 2 (.take 3 (.take 4 (.take 5 (.take 6 (.take 7 (.take 8 (.take 9 (.one 10 .nil))))))))))) (by kernel_rfl) (by kernel_rfl) (Turns.of_below (below_drew1 _ _)) ?_
    have ht0 : Turns (fun j => j = E) w6 w6.drew := Turns.of_below (below_drew1 _ _)
    repeat (first
      | (refine tree_load rfl (by rfl) 25 _ rfl b1 o1 rfl (idA z0) _ (fun w' hb => HRG0.out w' hb) Tryd.underlying25 rfl (infoId _ (by rw [idA_size, HL0.out])) ?_; try simp only [Act.put, List.setIfInBounds_toArray, List.set_cons_zero, List.set_cons_succ])
      | (refine tree_load rfl (by rfl) 25 _ rfl b1 (o1 + 32) rfl (idA z1) _ (fun w' hb => HRG1.out w' hb) Tryd.underlying25 rfl (infoId _ (by rw [idA_size, HL1.out])) ?_; try simp only [Act.put, List.setIfInBounds_toArray, List.set_cons_zero, List.set_cons_succ])
      | (refine tree_build rfl (by rfl) 28 _ rfl [(0, .agg (idA z0)), (1, .agg (idA z1)), (2, .slice (cutI (some ⟨b1, o1, none⟩) cc 2) zs.length (cc - 2))] rfl _ HBK.out ?_; try simp only [Act.put, List.setIfInBounds_toArray, List.set_cons_zero, List.set_cons_succ])
      | (apply tree_take; (· rfl); (· rfl); (· (intro w' hb'; go_simp; try with_reducible rfl)); try simp only [Act.put, List.setIfInBounds_toArray, List.set_cons_zero, List.set_cons_succ]))
    refine tree_one rfl (by rfl) (fun K hK => oper_of_list rfl ?_)
    refine wpList_store_mid rfl 28 _ _ rfl E 2 (blkA z0 z1 (cutI (some ⟨b1, o1, none⟩) cc 2) zs.length (cc - 2)) rfl rfl (by rw [HBS.out]; exact HTH.out) (infoBl _ HBS.out) (blkA_one _ _ _ _ _) ?_
    have ht1 := turns_setCells (S := fun j => j = E) rfl (blkA z0 z1 (cutI (some ⟨b1, o1, none⟩) cc 2) zs.length (cc - 2)).toList 2 _ ht0
    refine only_end (Shut.out hK _ _ ht1 ?_)
    clear hK K ht0 HRG0 HRG1
    try simp only [Act.put]
    refine tree_nil ?_
    have HAQ : Hid (∀ a, cutI (some ⟨b1, o1, none⟩) cc 2 = some a → a.block = b1) := fun a ha => by
      unfold cutI at ha
      split at ha
      · obtain rfl := Option.some.inj ha; rfl
      · obtain rfl := Option.some.inj ha
        exact addr_add_block (⟨b1, o1, none⟩ : Addr) (2 * 32)
    have HISX := Lib.hid (is_turn HDR.out ht1 (fun a ha hg => HBG.out ((HAQ.out a ha).symm.trans hg)))
    have HRX := Lib.hid (ht1.keep HR6.out (by show ¬ _ = E; have := HSE.out; omega))
    have HBX : Hid (Below w.heap.size w _) := HB6.out.trans (ht1.below HB6.out.size (fun i (h : i = E) => by have := HSE.out; omega))
    have HAPX : Hid ((∀ a, (none : Option Addr) = some a → w.heap.size < a.block) ∧ (∀ a, cutI (some ⟨b1, o1, none⟩) cc 2 = some a → w.heap.size < a.block)) := ⟨fun _ h => (nomatch h), fun a ha => by rw [HAQ.out a ha]; have := HBL.out; omega⟩
    clear ht1
    generalize World.setCells _ E 2 _ = wX at *
    have HBSX : Hid (Bs wX none 0 0 []) := Sl.nil _ _
    skip
    -- the row of E told: A1 = evA EV.., HROW, HRX, HBX, HEX (its EW at wX), HYES
    obtain ⟨A1, hA1⟩ : ∃ A1, A1 = evA { Ev.zero ((2 : Nat) : Int) with h := z0, p := z1, tx := zs } none 0 (cutI (some ⟨b1, o1, none⟩) cc 2) (cc - 2) := ⟨_, rfl⟩
    have HAS1 : Hid (A1.size = 103) := by show _ = _; rw [hA1]; exact evA_size HEX.out.wf _ _ _ _
    have HAO1 : Hid (A1.all (·.oneCell') = true) := by show _ = _; rw [hA1]; exact evA_one _ _ _ _ _
    have HROW := Lib.hid HEX.out.row
    rw [← hA1] at HROW
    have HA1 := Lib.hid hA1
    clear hA1
    go_wp2_with (first
      | refine wpList_load_row rfl 37 _ rfl E rfl 37 A1 (0, 0) _ HROW.out Tryd.underlying37 rfl (infoF _ HAS1.out) ?_
      | refine wpList_store_row rfl 37 _ _ rfl w.heap.size A1 rfl rfl 37 zE HRX.out (infoF _ HAS1.out) (by rw [HAS1.out]; exact HZS.out) HAO1.out ?_)
    have HSR := Lib.hid (setRow_heap _ _ _ A1 _ _ HRX.out)
    have HTS : Hid (Turns (fun j => j = w.heap.size) wX (World.setRow wX w.heap.size A1)) := turns_setRow _ _ _
    refine bodyPost_ret (results_ct rfl _ _ _ _ _ _ _ rfl HSR.out Tryd.underlying37 rfl (infoF _ HAS1.out)) rfl ?_
    rw [HRE.out, HYES.out]
    exact ⟨_, _, _, _, by rw [HA1.out]; rfl, ⟨HEX.out.wf, sl_turn HBSX.out HTS.out (fun a ha hg => by have h1 := HAPX.out.1 a ha; have hg : a.block = w.heap.size := hg; omega), is_turn HISX.out HTS.out (fun a ha hg => by have h1 := HAPX.out.2 a ha; have hg : a.block = w.heap.size := hg; omega)⟩, below_setRow HBX.out (by omega) _⟩
  by_cases hk3 : k = 3
  · subst hk3
    have HID := Lib.hid (rids_any q r.length cq r w5 HW5.out hrl HLL.out)
    clear hk1 hk2
    go_wp2_with fail
    refine HID.out.mono ?_
    rintro x w6 ⟨hb, hcase⟩
    have HR6 := Lib.hid (Below.keepOld hb HR5.out)
    have HB6 := Lib.hid (HB5.out.trans (hb.mono HB5.out.size))
    have HE6 := Lib.hid (HEW.out.next hb)
    have hs5 : w.heap.size < w5.heap.size := by have := HSE.out; have := HE5.out; omega
    clear hb HID
    skip
    obtain ⟨l, p, cc, hl, rfl, his, hap⟩ | ⟨hl, rfl⟩ := hcase
    rotate_left
    · have HNO : Hid (readK 3 r = none) := by show _ = _; rw [readK_3 3 (by omega), hl]; rfl
      have HRX := HR6
      have HBX := HB6
      clear hl
      skip
      go_wp2_with (first
        | refine Rdr.wpList_build rfl 37 _ rfl [] rfl _ HBU.out ?_
        | refine wpList_store_row rfl 37 _ _ rfl w.heap.size zE rfl rfl 37 zE HRX.out (infoF _ HZS.out) rfl HZO.out ?_)
      have HSR := Lib.hid (setRow_heap _ _ _ zE _ _ HRX.out)
      refine bodyPost_ret (results_ct rfl _ _ _ _ _ _ _ rfl HSR.out Tryd.underlying37 rfl (infoF _ HZS.out)) rfl ?_
      rw [HRE.out, HNO.out]
      exact ⟨none, 0, none, 0, rfl, zero_at _ 0 zero_i64, below_setRow HBX.out (by omega) _⟩
    by_cases h1 : l.length = 1
    rotate_left
    · obtain ⟨q1, q2, q3, q4⟩ := (len_facts l 1).2 h1
      have HNO : Hid (readK 3 r = none) := by show _ = _; rw [readK_3 3 (by omega), hl]; show (if l.length = 1 then _ else _) = _; rw [if_neg h1]
      have HRX := HR6
      have HBX := HB6
      clear hl h1 his hap
      skip
      go_wp2_with (first
        | refine Rdr.wpList_build rfl 37 _ rfl [] rfl _ HBU.out ?_
        | refine wpList_store_row rfl 37 _ _ rfl w.heap.size zE rfl rfl 37 zE HRX.out (infoF _ HZS.out) rfl HZO.out ?_)
      have HSR := Lib.hid (setRow_heap _ _ _ zE _ _ HRX.out)
      refine bodyPost_ret (results_ct rfl _ _ _ _ _ _ _ rfl HSR.out Tryd.underlying37 rfl (infoF _ HZS.out)) rfl ?_
      rw [HRE.out, HNO.out]
      exact ⟨none, 0, none, 0, rfl, zero_at _ 0 zero_i64, below_setRow HBX.out (by omega) _⟩
    obtain ⟨q1, q2, q3, q4⟩ := (len_facts l 1).1 h1
    obtain ⟨z, rfl⟩ := len1 h1
    have hcc := his.sl.le
    have hcm := his.sl.max
    obtain ⟨b1, o1, rfl⟩ := his.sl.addr (by show 0 < 1; omega) (by omega)
    have HRZ := Lib.hid (his.range (by omega) 0 (by show 0 < 1; omega))
    have HZL : Hid (z.length = 32) := his.each z (by simp)
    have HYES : Hid (readK 3 r = some ⟨((3 : Nat) : Int), [], zeros, zeros, [], z, 0, 0, 0, 0⟩) := by show _ = _; rw [readK_3 3 (by omega), hl]; rfl
    have HRG : Hid (w6.rangeAt b1 o1 (idA z).toList) := fun j v hv => by
      have := HRZ.out j v hv
      rw [Nat.zero_mul, Nat.add_zero] at this
      exact this
    have HTH := Lib.hid (HE6.out.there 67 32 (by omega))
    have HEX := Lib.hid (HE6.out.ident z HZL.out)
    have ht1 := turns_setCells (S := fun j => j = E) rfl (idA z).toList 67 w6 (Turns.refl _ _)
    have HRX := Lib.hid (ht1.keep HR6.out (by show ¬ _ = E; have := HSE.out; omega))
    have HBX : Hid (Below w.heap.size w _) := HB6.out.trans (ht1.below HB6.out.size (fun i (h : i = E) => by have := HSE.out; omega))
    have HAPX : Hid ((∀ a, (none : Option Addr) = some a → w.heap.size < a.block) ∧ (∀ a, (none : Option Addr) = some a → w.heap.size < a.block)) := ap_none _
    clear hl h1 his hap ht1 HRZ
    go_upto_region 23 with (first
      | ((with_reducible refine wpAt 92 ?_); refine loadM (by rfl) 25 _ rfl b1 o1 rfl (idA z) _ HRG.out Tryd.underlying25 rfl (infoId _ (by rw [idA_size, HZL.out])) ?_)
      | refine wpList_store_mid rfl 25 _ _ rfl E 67 (idA z) rfl rfl (by rw [idA_size, HZL.out]; exact HTH.out) (infoId _ (by rw [idA_size, HZL.out])) (idA_one _) ?_)
    generalize World.setCells w6 E 67 _ = wX at *
    have HBSX : Hid (Bs wX none 0 0 []) := Sl.nil _ _
    have HISX : Hid (Is wX none 0 0 32 []) := Is.nil _ _
    skip
    -- the row of E told: A1 = evA EV.., HROW, HRX, HBX, HEX (its EW at wX), HYES
    obtain ⟨A1, hA1⟩ : ∃ A1, A1 = evA { Ev.zero ((3 : Nat) : Int) with id := z } none 0 none 0 := ⟨_, rfl⟩
    have HAS1 : Hid (A1.size = 103) := by show _ = _; rw [hA1]; exact evA_size HEX.out.wf _ _ _ _
    have HAO1 : Hid (A1.all (·.oneCell') = true) := by show _ = _; rw [hA1]; exact evA_one _ _ _ _ _
    have HROW := Lib.hid HEX.out.row
    rw [← hA1] at HROW
    have HA1 := Lib.hid hA1
    clear hA1
    go_wp2_with (first
      | refine wpList_load_row rfl 37 _ rfl E rfl 37 A1 (0, 0) _ HROW.out Tryd.underlying37 rfl (infoF _ HAS1.out) ?_
      | refine wpList_store_row rfl 37 _ _ rfl w.heap.size A1 rfl rfl 37 zE HRX.out (infoF _ HAS1.out) (by rw [HAS1.out]; exact HZS.out) HAO1.out ?_)
    have HSR := Lib.hid (setRow_heap _ _ _ A1 _ _ HRX.out)
    have HTS : Hid (Turns (fun j => j = w.heap.size) wX (World.setRow wX w.heap.size A1)) := turns_setRow _ _ _
    refine bodyPost_ret (results_ct rfl _ _ _ _ _ _ _ rfl HSR.out Tryd.underlying37 rfl (infoF _ HAS1.out)) rfl ?_
    rw [HRE.out, HYES.out]
    exact ⟨_, _, _, _, by rw [HA1.out]; rfl, ⟨HEX.out.wf, sl_turn HBSX.out HTS.out (fun a ha hg => by have h1 := HAPX.out.1 a ha; have hg : a.block = w.heap.size := hg; omega), is_turn HISX.out HTS.out (fun a ha hg => by have h1 := HAPX.out.2 a ha; have hg : a.block = w.heap.size := hg; omega)⟩, below_setRow HBX.out (by omega) _⟩
  by_cases hk4 : k = 4
  · subst hk4
    have HID := Lib.hid (rids_any q r.length cq r w5 HW5.out hrl HLL.out)
    clear hk1 hk2 hk3
    go_wp2_with fail
    refine HID.out.mono ?_
    rintro x w6 ⟨hb, hcase⟩
    have HR6 := Lib.hid (Below.keepOld hb HR5.out)
    have HB6 := Lib.hid (HB5.out.trans (hb.mono HB5.out.size))
    have HE6 := Lib.hid (HEW.out.next hb)
    have hs5 : w.heap.size < w5.heap.size := by have := HSE.out; have := HE5.out; omega
    clear hb HID
    skip
    obtain ⟨l, p, cc, hl, rfl, his, hap⟩ | ⟨hl, rfl⟩ := hcase
    rotate_left
    · have HNO : Hid (readK 4 r = none) := by show _ = _; rw [readK_3 4 (by omega), hl]; rfl
      have HRX := HR6
      have HBX := HB6
      clear hl
      skip
      go_wp2_with (first
        | refine Rdr.wpList_build rfl 37 _ rfl [] rfl _ HBU.out ?_
        | refine wpList_store_row rfl 37 _ _ rfl w.heap.size zE rfl rfl 37 zE HRX.out (infoF _ HZS.out) rfl HZO.out ?_)
      have HSR := Lib.hid (setRow_heap _ _ _ zE _ _ HRX.out)
      refine bodyPost_ret (results_ct rfl _ _ _ _ _ _ _ rfl HSR.out Tryd.underlying37 rfl (infoF _ HZS.out)) rfl ?_
      rw [HRE.out, HNO.out]
      exact ⟨none, 0, none, 0, rfl, zero_at _ 0 zero_i64, below_setRow HBX.out (by omega) _⟩
    by_cases h1 : l.length = 1
    rotate_left
    · obtain ⟨q1, q2, q3, q4⟩ := (len_facts l 1).2 h1
      have HNO : Hid (readK 4 r = none) := by show _ = _; rw [readK_3 4 (by omega), hl]; show (if l.length = 1 then _ else _) = _; rw [if_neg h1]
      have HRX := HR6
      have HBX := HB6
      clear hl h1 his hap
      skip
      go_wp2_with (first
        | refine Rdr.wpList_build rfl 37 _ rfl [] rfl _ HBU.out ?_
        | refine wpList_store_row rfl 37 _ _ rfl w.heap.size zE rfl rfl 37 zE HRX.out (infoF _ HZS.out) rfl HZO.out ?_)
      have HSR := Lib.hid (setRow_heap _ _ _ zE _ _ HRX.out)
      refine bodyPost_ret (results_ct rfl _ _ _ _ _ _ _ rfl HSR.out Tryd.underlying37 rfl (infoF _ HZS.out)) rfl ?_
      rw [HRE.out, HNO.out]
      exact ⟨none, 0, none, 0, rfl, zero_at _ 0 zero_i64, below_setRow HBX.out (by omega) _⟩
    obtain ⟨q1, q2, q3, q4⟩ := (len_facts l 1).1 h1
    obtain ⟨z, rfl⟩ := len1 h1
    have hcc := his.sl.le
    have hcm := his.sl.max
    obtain ⟨b1, o1, rfl⟩ := his.sl.addr (by show 0 < 1; omega) (by omega)
    have HRZ := Lib.hid (his.range (by omega) 0 (by show 0 < 1; omega))
    have HZL : Hid (z.length = 32) := his.each z (by simp)
    have HYES : Hid (readK 4 r = some ⟨((4 : Nat) : Int), [], zeros, zeros, [], z, 0, 0, 0, 0⟩) := by show _ = _; rw [readK_3 4 (by omega), hl]; rfl
    have HRG : Hid (w6.rangeAt b1 o1 (idA z).toList) := fun j v hv => by
      have := HRZ.out j v hv
      rw [Nat.zero_mul, Nat.add_zero] at this
      exact this
    have HTH := Lib.hid (HE6.out.there 67 32 (by omega))
    have HEX := Lib.hid (HE6.out.ident z HZL.out)
    have ht1 := turns_setCells (S := fun j => j = E) rfl (idA z).toList 67 w6 (Turns.refl _ _)
    have HRX := Lib.hid (ht1.keep HR6.out (by show ¬ _ = E; have := HSE.out; omega))
    have HBX : Hid (Below w.heap.size w _) := HB6.out.trans (ht1.below HB6.out.size (fun i (h : i = E) => by have := HSE.out; omega))
    have HAPX : Hid ((∀ a, (none : Option Addr) = some a → w.heap.size < a.block) ∧ (∀ a, (none : Option Addr) = some a → w.heap.size < a.block)) := ap_none _
    clear hl h1 his hap ht1 HRZ
    go_upto_region 23 with (first
      | ((with_reducible refine wpAt 92 ?_); refine loadM (by rfl) 25 _ rfl b1 o1 rfl (idA z) _ HRG.out Tryd.underlying25 rfl (infoId _ (by rw [idA_size, HZL.out])) ?_)
      | refine wpList_store_mid rfl 25 _ _ rfl E 67 (idA z) rfl rfl (by rw [idA_size, HZL.out]; exact HTH.out) (infoId _ (by rw [idA_size, HZL.out])) (idA_one _) ?_)
    generalize World.setCells w6 E 67 _ = wX at *
    have HBSX : Hid (Bs wX none 0 0 []) := Sl.nil _ _
    have HISX : Hid (Is wX none 0 0 32 []) := Is.nil _ _
    skip
    -- the row of E told: A1 = evA EV.., HROW, HRX, HBX, HEX (its EW at wX), HYES
    obtain ⟨A1, hA1⟩ : ∃ A1, A1 = evA { Ev.zero ((4 : Nat) : Int) with id := z } none 0 none 0 := ⟨_, rfl⟩
    have HAS1 : Hid (A1.size = 103) := by show _ = _; rw [hA1]; exact evA_size HEX.out.wf _ _ _ _
    have HAO1 : Hid (A1.all (·.oneCell') = true) := by show _ = _; rw [hA1]; exact evA_one _ _ _ _ _
    have HROW := Lib.hid HEX.out.row
    rw [← hA1] at HROW
    have HA1 := Lib.hid hA1
    clear hA1
    go_wp2_with (first
      | refine wpList_load_row rfl 37 _ rfl E rfl 37 A1 (0, 0) _ HROW.out Tryd.underlying37 rfl (infoF _ HAS1.out) ?_
      | refine wpList_store_row rfl 37 _ _ rfl w.heap.size A1 rfl rfl 37 zE HRX.out (infoF _ HAS1.out) (by rw [HAS1.out]; exact HZS.out) HAO1.out ?_)
    have HSR := Lib.hid (setRow_heap _ _ _ A1 _ _ HRX.out)
    have HTS : Hid (Turns (fun j => j = w.heap.size) wX (World.setRow wX w.heap.size A1)) := turns_setRow _ _ _
    refine bodyPost_ret (results_ct rfl _ _ _ _ _ _ _ rfl HSR.out Tryd.underlying37 rfl (infoF _ HAS1.out)) rfl ?_
    rw [HRE.out, HYES.out]
    exact ⟨_, _, _, _, by rw [HA1.out]; rfl, ⟨HEX.out.wf, sl_turn HBSX.out HTS.out (fun a ha hg => by have h1 := HAPX.out.1 a ha; have hg : a.block = w.heap.size := hg; omega), is_turn HISX.out HTS.out (fun a ha hg => by have h1 := HAPX.out.2 a ha; have hg : a.block = w.heap.size := hg; omega)⟩, below_setRow HBX.out (by omega) _⟩
  by_cases hk5 : k = 5
  · subst hk5
    have HNM := Lib.hid (rnumbers_any 1 65535 (by omega) (by omega) q r.length cq r w5 HW5.out HLL.out)
    clear hk1 hk2 hk3 hk4
    go_wp2_with fail
    refine HNM.out.mono ?_
    rintro x w6 ⟨hb, hcase⟩
    have HR6 := Lib.hid (Below.keepOld hb HR5.out)
    have HB6 := Lib.hid (HB5.out.trans (hb.mono HB5.out.size))
    have HE6 := Lib.hid (HEW.out.next hb)
    have HY6 := Lib.hid (fun i (h : i = E) => (show w.heap.size ≤ i by have := HSE.out; omega))
    have hs5 : w.heap.size < w5.heap.size := by have := HSE.out; have := HE5.out; omega
    clear hb HNM
    rcases hcase with ⟨hlen, l, p, cc, hnl, rfl, hsl, hap⟩ | ⟨hbad, rfl⟩
    rotate_left
    · have HNO : Hid (readK 5 r = none) := by
        show _ = _
        unfold readK
        rw [if_neg (by omega), if_neg (by omega), if_neg (by omega), if_pos rfl]
        rcases hbad with hb | hb
        · rw [if_neg hb]
        · split
          · rw [hb]; rfl
          · rfl
      have HRX := HR6
      have HBX := HB6
      clear hbad
      skip
      go_wp2_with (first
        | refine Rdr.wpList_build rfl 37 _ rfl [] rfl _ HBU.out ?_
        | refine wpList_store_row rfl 37 _ _ rfl w.heap.size zE rfl rfl 37 zE HRX.out (infoF _ HZS.out) rfl HZO.out ?_)
      have HSR := Lib.hid (setRow_heap _ _ _ zE _ _ HRX.out)
      refine bodyPost_ret (results_ct rfl _ _ _ _ _ _ _ rfl HSR.out Tryd.underlying37 rfl (infoF _ HZS.out)) rfl ?_
      rw [HRE.out, HNO.out]
      exact ⟨none, 0, none, 0, rfl, zero_at _ 0 zero_i64, below_setRow HBX.out (by omega) _⟩
    obtain ⟨_, hle2, hll⟩ := numsM_back hnl
    obtain ⟨v, rfl⟩ := List.length_eq_one_iff.1 (hll.trans hlen)
    have HV := Lib.hid (nat_i64 (hle2 v (by simp)))
    have HYES : Hid (readK 5 r = some ⟨5, [], zeros, zeros, [], zeros, (v : Int), 0, 0, 0⟩) := by
      show _ = _
      unfold readK
      rw [if_neg (by omega), if_neg (by omega), if_neg (by omega), if_pos rfl, if_pos hlen, hnl]; rfl
    have hcc := hsl.le
    have hcm := hsl.max
    obtain ⟨b1, o1, rfl⟩ := hsl.addr (by show 0 < 1; omega) (by omega)
    have hcv : w6.cell? ⟨b1, o1, none⟩ = some (.int .i64 (v : Int)) := hsl.at (j := 0) rfl
    have hE1 : w6.cell? ⟨E, 99, none⟩ = some (.int .i64 0) := HE6.out.cells.n
    have hfz : ∀ j, w6.frozen? ⟨E, j, none⟩ = false := fun j => HE6.out.frozen j
    have HEX := Lib.hid (HE6.out.num (v : Int) HV.out)
    have HTX : Hid (Turns (fun j => j = E) w6 (w6.setCell ⟨E, 99, none⟩ (.int .i64 (v : Int)))) := (Turns.refl (fun j => j = E) w6).setCell (p := ⟨E, 99, none⟩) (fun _ => rfl) _
    have HRX := Lib.hid (HTX.out.keep HR6.out (by show ¬ _ = E; have := HSE.out; omega))
    have HBX : Hid (Below w.heap.size w (w6.setCell ⟨E, 99, none⟩ (.int .i64 (v : Int)))) := HB6.out.trans (HTX.out.below HB6.out.size HY6.out)
    have HAPX : Hid ((∀ a, (none : Option Addr) = some a → w.heap.size < a.block) ∧ (∀ a, (none : Option Addr) = some a → w.heap.size < a.block)) := ap_none _
    clear hlen hnl hsl hap hle2 hll
    go_upto_region 29 with fail
    generalize World.setCell w6 ⟨E, 99, none⟩ _ = wX at *
    have HBSX : Hid (Bs wX none 0 0 []) := Sl.nil _ _
    have HISX : Hid (Is wX none 0 0 32 []) := Is.nil _ _
    skip
    -- the row of E told: A1 = evA EV.., HROW, HRX, HBX, HEX (its EW at wX), HYES
    obtain ⟨A1, hA1⟩ : ∃ A1, A1 = evA { Ev.zero ((5 : Nat) : Int) with n := (v : Int) } none 0 none 0 := ⟨_, rfl⟩
    have HAS1 : Hid (A1.size = 103) := by show _ = _; rw [hA1]; exact evA_size HEX.out.wf _ _ _ _
    have HAO1 : Hid (A1.all (·.oneCell') = true) := by show _ = _; rw [hA1]; exact evA_one _ _ _ _ _
    have HROW := Lib.hid HEX.out.row
    rw [← hA1] at HROW
    have HA1 := Lib.hid hA1
    clear hA1
    go_wp2_with (first
      | refine wpList_load_row rfl 37 _ rfl E rfl 37 A1 (0, 0) _ HROW.out Tryd.underlying37 rfl (infoF _ HAS1.out) ?_
      | refine wpList_store_row rfl 37 _ _ rfl w.heap.size A1 rfl rfl 37 zE HRX.out (infoF _ HAS1.out) (by rw [HAS1.out]; exact HZS.out) HAO1.out ?_)
    have HSR := Lib.hid (setRow_heap _ _ _ A1 _ _ HRX.out)
    have HTS : Hid (Turns (fun j => j = w.heap.size) wX (World.setRow wX w.heap.size A1)) := turns_setRow _ _ _
    refine bodyPost_ret (results_ct rfl _ _ _ _ _ _ _ rfl HSR.out Tryd.underlying37 rfl (infoF _ HAS1.out)) rfl ?_
    rw [HRE.out, HYES.out]
    exact ⟨_, _, _, _, by rw [HA1.out]; rfl, ⟨HEX.out.wf, sl_turn HBSX.out HTS.out (fun a ha hg => by have h1 := HAPX.out.1 a ha; have hg : a.block = w.heap.size := hg; omega), is_turn HISX.out HTS.out (fun a ha hg => by have h1 := HAPX.out.2 a ha; have hg : a.block = w.heap.size := hg; omega)⟩, below_setRow HBX.out (by omega) _⟩
  by_cases hk6 : k = 6
  · subst hk6
    have HNM := Lib.hid (rnumbers_any 4 65535 (by omega) (by omega) q r.length cq r w5 HW5.out HLL.out)
    clear hk1 hk2 hk3 hk4 hk5
    go_wp2_with fail
    refine HNM.out.mono ?_
    rintro x w6 ⟨hb, hcase⟩
    have HR6 := Lib.hid (Below.keepOld hb HR5.out)
    have HB6 := Lib.hid (HB5.out.trans (hb.mono HB5.out.size))
    have HE6 := Lib.hid (HEW.out.next hb)
    have HY6 := Lib.hid (fun i (h : i = E) => (show w.heap.size ≤ i by have := HSE.out; omega))
    have hs5 : w.heap.size < w5.heap.size := by have := HSE.out; have := HE5.out; omega
    clear hb HNM
    rcases hcase with ⟨hlen, l, p, cc, hnl, rfl, hsl, hap⟩ | ⟨hbad, rfl⟩
    rotate_left
    · have HNO : Hid (readK 6 r = none) := by
        show _ = _
        unfold readK
        rw [if_neg (by omega), if_neg (by omega), if_neg (by omega), if_neg (by omega), if_pos rfl]
        rcases hbad with hb | hb
        · rw [if_neg hb]
        · split
          · rw [hb]; rfl
          · rfl
      have HRX := HR6
      have HBX := HB6
      clear hbad
      skip
      go_wp2_with (first
        | refine Rdr.wpList_build rfl 37 _ rfl [] rfl _ HBU.out ?_
        | refine wpList_store_row rfl 37 _ _ rfl w.heap.size zE rfl rfl 37 zE HRX.out (infoF _ HZS.out) rfl HZO.out ?_)
      have HSR := Lib.hid (setRow_heap _ _ _ zE _ _ HRX.out)
      refine bodyPost_ret (results_ct rfl _ _ _ _ _ _ _ rfl HSR.out Tryd.underlying37 rfl (infoF _ HZS.out)) rfl ?_
      rw [HRE.out, HNO.out]
      exact ⟨none, 0, none, 0, rfl, zero_at _ 0 zero_i64, below_setRow HBX.out (by omega) _⟩
    obtain ⟨_, hle2, hll⟩ := numsM_back hnl
    have hl4 : l.length = 4 := hll.trans hlen
    obtain ⟨v0, v1, v2, v3, rfl⟩ : ∃ v0 v1 v2 v3, l = [v0, v1, v2, v3] := by
      match l, hl4 with
      | [a, b, c, d], _ => exact ⟨a, b, c, d, rfl⟩
    have HV0 := Lib.hid (nat_i64 (hle2 v0 (by simp)))
    have HV1 := Lib.hid (nat_i64 (hle2 v1 (by simp)))
    have HV2 := Lib.hid (nat_i64 (hle2 v2 (by simp)))
    have HV3 := Lib.hid (nat_i64 (hle2 v3 (by simp)))
    have HYES : Hid (readK 6 r = some ⟨6, [], zeros, zeros, [], zeros, (v0 : Int), (v1 : Int), (v2 : Int), (v3 : Int)⟩) := by
      show _ = _
      unfold readK
      rw [if_neg (by omega), if_neg (by omega), if_neg (by omega), if_neg (by omega), if_pos rfl, if_pos hlen, hnl]; rfl
    have hcc := hsl.le
    have hcm := hsl.max
    obtain ⟨b1, o1, rfl⟩ := hsl.addr (by show 0 < 4; omega) (by omega)
    have hcv : w6.cell? ⟨b1, o1, none⟩ = some (.int .i64 (v0 : Int)) := hsl.at (j := 0) rfl
    have hE1 : w6.cell? ⟨E, 99, none⟩ = some (.int .i64 0) := HE6.out.cells.n
    have hfz : ∀ j, w6.frozen? ⟨E, j, none⟩ = false := fun j => HE6.out.frozen j
    have HE7 := Lib.hid (HE6.out.num (v0 : Int) HV0.out)
    have HTX : Hid (Turns (fun j => j = E) w6 (w6.setCell ⟨E, 99, none⟩ (.int .i64 (v0 : Int)))) := (Turns.refl (fun j => j = E) w6).setCell (p := ⟨E, 99, none⟩) (fun _ => rfl) _
    have HBG : Hid (b1 ≠ E) := fun e => by have h1 : w5.heap.size ≤ b1 := hap _ rfl; have := HE5.out; omega
    have HS7 := Lib.hid (sl_turn hsl HTX.out (fun a ha hg => HBG.out (by obtain rfl := Option.some.inj ha; exact hg)))
    have HR7 := Lib.hid (HTX.out.keep HR6.out (by show ¬ _ = E; have := HSE.out; omega))
    have HB7 : Hid (Below w.heap.size w (w6.setCell ⟨E, 99, none⟩ (.int .i64 (v0 : Int)))) := HB6.out.trans (HTX.out.below HB6.out.size HY6.out)
    have HAPX : Hid ((∀ a, (none : Option Addr) = some a → w.heap.size < a.block) ∧ (∀ a, (none : Option Addr) = some a → w.heap.size < a.block)) := ap_none _
    clear hlen hnl hsl hap hle2 hll hl4
    go_upto_region 35 with fail
    generalize World.setCell w6 ⟨E, 99, none⟩ _ = w7 at *
    clear hcv hE1 hfz
    have HC1 : Hid (∀ w', Turns (fun j => j = E) w7 w' → w'.cell? ⟨b1, o1 + 1, none⟩ = some (.int .i64 (v1 : Int))) := fun w' ht => ht.cell (HS7.out.at (j := 1) rfl) HBG.out
    have HC2 : Hid (∀ w', Turns (fun j => j = E) w7 w' → w'.cell? ⟨b1, o1 + 2, none⟩ = some (.int .i64 (v2 : Int))) := fun w' ht => ht.cell (HS7.out.at (j := 2) rfl) HBG.out
    have HC3 : Hid (∀ w', Turns (fun j => j = E) w7 w' → w'.cell? ⟨b1, o1 + 3, none⟩ = some (.int .i64 (v3 : Int))) := fun w' ht => ht.cell (HS7.out.at (j := 3) rfl) HBG.out
    have HED : Hid (EW w5 E 37 { Ev.zero ((6 : Nat) : Int) with n := (v0 : Int) } none 0 none 0 w7.drew) := HE7.out.next (below_drew1 w7.heap.size w7)
    have HTH := Lib.hid (HED.out.there 100 3 (by omega))
    have HEX := Lib.hid (HED.out.units (v1 : Int) (v2 : Int) (v3 : Int) HV1.out HV2.out HV3.out)
    have HBK := Lib.hid (built_u3 (v1 : Int) (v2 : Int) (v3 : Int))
    refine wp_region_tree (fun w' => Turns (fun j => j = E) w7 w') (.take 0 (.take 1 (.take 2 (.take 3 (.take 4 (.take 5 (.take 6 (.take 7 (.take 8 (.take 9 (.take 10 (.one 11 .nil)))))))))))) (by kernel_rfl) (by kernel_rfl) (Turns.of_below (below_drew1 _ _)) ?_
    have ht0 : Turns (fun j => j = E) w7 w7.drew := Turns.of_below (below_drew1 _ _)
    repeat (first
      | (refine tree_build rfl (by rfl) 29 _ rfl [(0, .int .i64 (v1 : Int)), (1, .int .i64 (v2 : Int)), (2, .int .i64 (v3 : Int))] rfl _ HBK.out ?_; try simp only [Act.put, List.setIfInBounds_toArray, List.set_cons_zero, List.set_cons_succ])
      | (apply tree_take; (· rfl); (· rfl); (· (intro w' hb'; go_simp; try with_reducible rfl)); try simp only [Act.put, List.setIfInBounds_toArray, List.set_cons_zero, List.set_cons_succ])
      | (apply tree_take; (· rfl); (· rfl); (· (intro w' hb'; have hk' := (HC1.out) w' hb'; go_simp; try with_reducible rfl)); try simp only [Act.put, List.setIfInBounds_toArray, List.set_cons_zero, List.set_cons_succ])
      | (apply tree_take; (· rfl); (· rfl); (· (intro w' hb'; have hk' := (HC2.out) w' hb'; go_simp; try with_reducible rfl)); try simp only [Act.put, List.setIfInBounds_toArray, List.set_cons_zero, List.set_cons_succ])
      | (apply tree_take; (· rfl); (· rfl); (· (intro w' hb'; have hk' := (HC3.out) w' hb'; go_simp; try with_reducible rfl)); try simp only [Act.put, List.setIfInBounds_toArray, List.set_cons_zero, List.set_cons_succ]))
    refine tree_one rfl (by rfl) (fun K hK => oper_of_list rfl ?_)
    refine wpList_store_mid rfl 29 _ _ rfl E 100 #[.int .i64 (v1 : Int), .int .i64 (v2 : Int), .int .i64 (v3 : Int)] rfl rfl HTH.out (infoU3 _ rfl) (by kernel_rfl) ?_
    have ht1 := turns_setCells (S := fun j => j = E) rfl [Value.int .i64 (v1 : Int), .int .i64 (v2 : Int), .int .i64 (v3 : Int)] 100 _ ht0
    refine only_end (Shut.out hK _ _ ht1 ?_)
    clear hK K ht0 HC1 HC2 HC3
    try simp only [Act.put]
    refine tree_nil ?_
    have HRX := Lib.hid (ht1.keep HR7.out (by show ¬ _ = E; have := HSE.out; omega))
    have HBX : Hid (Below w.heap.size w _) := HB7.out.trans (ht1.below HB7.out.size (fun i (h : i = E) => by have := HSE.out; omega))
    clear ht1
    generalize World.setCells _ E 100 _ = wX at *
    have HBSX : Hid (Bs wX none 0 0 []) := Sl.nil _ _
    have HISX : Hid (Is wX none 0 0 32 []) := Is.nil _ _
    skip
    -- the row of E told: A1 = evA EV.., HROW, HRX, HBX, HEX (its EW at wX), HYES
    obtain ⟨A1, hA1⟩ : ∃ A1, A1 = evA { Ev.zero ((6 : Nat) : Int) with n := (v0 : Int), u0 := (v1 : Int), u1 := (v2 : Int), u2 := (v3 : Int) } none 0 none 0 := ⟨_, rfl⟩
    have HAS1 : Hid (A1.size = 103) := by show _ = _; rw [hA1]; exact evA_size HEX.out.wf _ _ _ _
    have HAO1 : Hid (A1.all (·.oneCell') = true) := by show _ = _; rw [hA1]; exact evA_one _ _ _ _ _
    have HROW := Lib.hid HEX.out.row
    rw [← hA1] at HROW
    have HA1 := Lib.hid hA1
    clear hA1
    go_wp2_with (first
      | refine wpList_load_row rfl 37 _ rfl E rfl 37 A1 (0, 0) _ HROW.out Tryd.underlying37 rfl (infoF _ HAS1.out) ?_
      | refine wpList_store_row rfl 37 _ _ rfl w.heap.size A1 rfl rfl 37 zE HRX.out (infoF _ HAS1.out) (by rw [HAS1.out]; exact HZS.out) HAO1.out ?_)
    have HSR := Lib.hid (setRow_heap _ _ _ A1 _ _ HRX.out)
    have HTS : Hid (Turns (fun j => j = w.heap.size) wX (World.setRow wX w.heap.size A1)) := turns_setRow _ _ _
    refine bodyPost_ret (results_ct rfl _ _ _ _ _ _ _ rfl HSR.out Tryd.underlying37 rfl (infoF _ HAS1.out)) rfl ?_
    rw [HRE.out, HYES.out]
    exact ⟨_, _, _, _, by rw [HA1.out]; rfl, ⟨HEX.out.wf, sl_turn HBSX.out HTS.out (fun a ha hg => by have h1 := HAPX.out.1 a ha; have hg : a.block = w.heap.size := hg; omega), is_turn HISX.out HTS.out (fun a ha hg => by have h1 := HAPX.out.2 a ha; have hg : a.block = w.heap.size := hg; omega)⟩, below_setRow HBX.out (by omega) _⟩
  have hk0' : k = 0 := by
    by_cases h0 : k = 0
    · exact h0
    · have := (kind_name HKK.out h0).2
      omega
  subst hk0'
  have HNO : Hid (readK 0 r = none) := readK_0 r
  have HRX := HR5
  have HBX := HB5
  skip
  go_wp2_with (first
    | refine Rdr.wpList_build rfl 37 _ rfl [] rfl _ HBU.out ?_
    | refine wpList_store_row rfl 37 _ _ rfl w.heap.size zE rfl rfl 37 zE HRX.out (infoF _ HZS.out) rfl HZO.out ?_)
  have HSR := Lib.hid (setRow_heap _ _ _ zE _ _ HRX.out)
  refine bodyPost_ret (results_ct rfl _ _ _ _ _ _ _ rfl HSR.out Tryd.underlying37 rfl (infoF _ HZS.out)) rfl ?_
  rw [HRE.out, HNO.out]
  exact ⟨none, 0, none, 0, rfl, zero_at _ 0 zero_i64, below_setRow HBX.out (by omega) _⟩
end Go.Proofs.YtcddgbobbogpgaaDoor.Scr
