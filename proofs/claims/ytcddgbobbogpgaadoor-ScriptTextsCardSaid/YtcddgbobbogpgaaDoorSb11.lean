/- PARTS, JOINED: SCRIPTS: the reference's Line. Conditions: at most 100000 bytes and ids. SCRIPTS: the reference's Print. Conditions: at most 21000 events, each with at most 21000 bytes and ids. SCRIPTS: the laws' own trial (alive). Conditions: internal/bytealg.MaxLen holds an int. SCRIPTS: ScriptReads. Conditions: internal/bytealg.MaxLen holds an int. SCRIPTS: ScriptTexts. Conditions: internal/bytealg.MaxLen holds an int. A BLOCK THAT CAME IN. Conditions: none. EVENTS that came in. Conditions: none. WHAT THE BOUND OF AN '..UptoSaid' GIVES: sizes of what came in. Conditions: the bound. LISTS OF EVENTS AND A CONFIG that came in. Conditions: none. -/
import Derived.Test.YtcddgbobbogpgaaDoorSb1
import Derived.Test.YtcddgbobbogpgaaDoorSb2
import Derived.Test.YtcddgbobbogpgaaDoorSb3
import Derived.Test.YtcddgbobbogpgaaDoorSb4
import Derived.Test.YtcddgbobbogpgaaDoorSb5
import Derived.Test.YtcddgbobbogpgaaDoorSb6
import Derived.Test.YtcddgbobbogpgaaDoorSb7
import Derived.Test.YtcddgbobbogpgaaDoorSb8
import Derived.Test.YtcddgbobbogpgaaDoorSb9
import Derived.Test.YtcddgbobbogpgaaDoorSb10
import Derived.Test.YtcddgbobbogpgaaDoorRows
import Derived.Deep.Strs
namespace Go.Proofs.YtcddgbobbogpgaaDoor.Scr
open Go.RowKit Go.Mir Go.Mir.Hx Go.Mir.Parts HexW Rpl
open Go.Lib (join joinTail)

theorem join_snoc (a : List UInt8) (r : List (List UInt8)) (x : List UInt8) : join (a :: (r ++ [x])) [32] = join (a :: r) [32] ++ [32] ++ x := by
  simp [Go.Lib.join_cons, Go.Lib.joinTail]
theorem k6_cell {w : World} {g : Nat} (h : Ws w (some ⟨g, 0, none⟩) 7 7 K6) (k : Nat) (hk : k < 7) : w.cell? ⟨g, k, none⟩ = some (.string (S (K6.getD k []))) := by
  have h1 := Ws.str h (j := k) hk
  rw [Nat.zero_add] at h1
  rw [h1, List.getD_eq_getElem?_getD, List.getElem?_eq_getElem (show k < K6.length from hk)]; rfl
theorem S_app (a b : List UInt8) : S a ++ S b = S (a ++ b) := ByteArray.mk_append_mk a b
theorem take_getD (l : List Int) (i : Nat) (h : i < l.length) : l.take (i + 1) = l.take i ++ [l.getD i 0] := by
  rw [List.take_succ_eq_append_getElem h, List.getD_eq_getElem?_getD, List.getElem?_eq_getElem h]; rfl
theorem mem_getD (l : List Int) (i : Nat) (h : i < l.length) : l.getD i 0 ∈ l := by
  rw [List.getD_eq_getElem?_getD, List.getElem?_eq_getElem h]
  exact List.getElem_mem h
theorem lineE_words {e : Ev} {s0 : List UInt8} {r : List (List UInt8)} (hg : Good e) (h0 : K6.getD e.k.toNat [] = s0) (hr : restE e = r) : lineE e = join (s0 :: r) [32] := by
  rw [(line_good hg).1, wordsE, h0, hr]
set_option maxRecDepth 100000 in
set_option maxHeartbeats 6400000 in
theorem rline_any (e : Ev) (pb : Option Addr) (cb : Nat) (q : Option Addr) (c : Nat) (w : World) (h : EvAt w e pb cb q c) (hby : e.b.length ≤ 100000) (htx : e.tx.length ≤ 100000) :
    Calls Tryd.prog 8 #[.agg (evA e pb cb q c)] w (LineP e w) := by
  have hal := Below.allocs w (.cells (evA e pb cb q c) 37)
  have hr := heap_alloc_last w (.cells (evA e pb cb q c) 37)
  have HB1 := Lib.hid hal
  have HWF := Lib.hid h.wf
  have HAT := Lib.hid (h.below hal)
  have HBY := Lib.hid hby
  have HTX := Lib.hid htx
  obtain ⟨A, hA⟩ : ∃ A, A = evA e pb cb q c := ⟨_, rfl⟩
  have HAS : Hid (A.size = 103) := by show _ = _; rw [hA]; exact evA_size h.wf pb cb q c
  have HAE := Lib.hid hA
  rw [← hA] at hr HB1 HAT ⊢
  have HR1 := Lib.hid hr
  have hrow := hr
  rw [hA] at hrow
  have hk := (ev_row h.wf (by rw [hA] at hr; exact hr)).k
  rw [← hA] at hk
  clear h hal hr hA hby htx hrow
  by_cases k1 : e.k < 1
  · have d1 : decide (e.k < 1) = true := decide_eq_true k1
    have HBAD : Hid (¬ Good e) := fun hg => by have := hg.1.1; omega
    clear k1
    go_enter Tryd.func8, Tryd.ntmps8
    go_upto_region 1 with fail
    generalize w.alloc (.cells A 37) = w1 at *
    have HK1 : Hid (∀ w', Below w1.heap.size w1 w' → w'.cell? ⟨w.heap.size, 0, none⟩ = some (.int .i64 e.k)) := fun w' hb => cell_below hk hb
    refine wp_region_eager [(0, true), (1, true), (2, true), (3, true), (4, true), (5, true), (6, true), (7, true), (8, true), (9, true), (10, true), (11, true), (12, true), (13, true), (14, true)] (by kernel_rfl) (by kernel_rfl) (eagerOpen rfl ?_)
    have hy0 : Below w1.heap.size w1 w1.drew := below_drew1 _ _
    repeat (first
      | (first | (apply wpEager_take; (· rfl); (· (intro w' hb'; go_simp; try with_reducible rfl)); (try simp only [Act.put, List.setIfInBounds_toArray, List.set_cons_zero, List.set_cons_succ]); (try refine eagerOpen rfl ?_)) | (refine wpEager_skip (by rfl) ?_; (try simp only [Act.put, List.setIfInBounds_toArray, List.set_cons_zero, List.set_cons_succ]); (try refine eagerOpen rfl ?_)) | (refine wpEager_off (by rfl) ?_; (try simp only [Act.put, List.setIfInBounds_toArray, List.set_cons_zero, List.set_cons_succ]); (try refine eagerOpen rfl ?_)))
      | (apply wpEager_take; (· rfl); (· (intro w' hb'; have hk' := (HK1.out) w' hb'; go_split_ands; go_simp; try with_reducible rfl)); (try simp only [Act.put, List.setIfInBounds_toArray, List.set_cons_zero, List.set_cons_succ]); (try refine eagerOpen rfl ?_)))
    refine eagerEnd ?_
    have HBX := Lib.hid (HB1.out.trans (hy0.mono HB1.out.size))
    clear hy0 hk
    go_wp2_with fail
    skip
    -- no line is told: HBX : Below w.heap.size w WX; HBAD : Hid (¬ Good e)
    go_ret2
    obtain ⟨f1, f2⟩ := line_bad HBAD.out
    unfold LineP
    rw [f1, f2]
    exact ⟨rfl, HBX.out⟩
  have d1 : decide (e.k < 1) = false := decide_eq_false k1
  by_cases k2 : 6 < e.k
  · have d2 : decide (6 < e.k) = true := decide_eq_true k2
    have HBAD : Hid (¬ Good e) := fun hg => by have := hg.1.2; omega
    clear k1 k2
    go_enter Tryd.func8, Tryd.ntmps8
    go_upto_region 1 with fail
    generalize w.alloc (.cells A 37) = w1 at *
    have HK1 : Hid (∀ w', Below w1.heap.size w1 w' → w'.cell? ⟨w.heap.size, 0, none⟩ = some (.int .i64 e.k)) := fun w' hb => cell_below hk hb
    refine wp_region_eager [(0, true), (1, true), (2, true), (3, true), (4, true), (5, true), (6, true), (7, true), (8, true), (9, true), (10, true), (11, true), (12, true), (13, true), (14, true)] (by kernel_rfl) (by kernel_rfl) (eagerOpen rfl ?_)
    have hy0 : Below w1.heap.size w1 w1.drew := below_drew1 _ _
    repeat (first
      | (first | (apply wpEager_take; (· rfl); (· (intro w' hb'; go_simp; try with_reducible rfl)); (try simp only [Act.put, List.setIfInBounds_toArray, List.set_cons_zero, List.set_cons_succ]); (try refine eagerOpen rfl ?_)) | (refine wpEager_skip (by rfl) ?_; (try simp only [Act.put, List.setIfInBounds_toArray, List.set_cons_zero, List.set_cons_succ]); (try refine eagerOpen rfl ?_)) | (refine wpEager_off (by rfl) ?_; (try simp only [Act.put, List.setIfInBounds_toArray, List.set_cons_zero, List.set_cons_succ]); (try refine eagerOpen rfl ?_)))
      | (apply wpEager_take; (· rfl); (· (intro w' hb'; have hk' := (HK1.out) w' hb'; go_split_ands; go_simp; try with_reducible rfl)); (try simp only [Act.put, List.setIfInBounds_toArray, List.set_cons_zero, List.set_cons_succ]); (try refine eagerOpen rfl ?_)))
    refine eagerEnd ?_
    have HBX := Lib.hid (HB1.out.trans (hy0.mono HB1.out.size))
    clear hy0 hk
    go_wp2_with fail
    skip
    -- no line is told: HBX : Below w.heap.size w WX; HBAD : Hid (¬ Good e)
    go_ret2
    obtain ⟨f1, f2⟩ := line_bad HBAD.out
    unfold LineP
    rw [f1, f2]
    exact ⟨rfl, HBX.out⟩
  have d2 : decide (6 < e.k) = false := decide_eq_false k2
  have HKK : Hid (1 ≤ e.k ∧ e.k ≤ 6) := ⟨by omega, by omega⟩
  clear k1 k2
  go_enter Tryd.func8, Tryd.ntmps8
  go_upto_region 1 with fail
  generalize w.alloc (.cells A 37) = w1 at *
  have HK1 : Hid (∀ w', Below w1.heap.size w1 w' → w'.cell? ⟨w.heap.size, 0, none⟩ = some (.int .i64 e.k)) := fun w' hb => cell_below hk hb
  have HRG : Hid (∀ w', Below w1.heap.size w1 w' → w'.rangeAt w.heap.size 0 A.toList) := fun w' hb => row_rangeS (Below.keepOld hb HR1.out)
  have HON := Lib.hid (fun y (hy : Below w1.heap.size w1 y) => ronly_any e HKK.out pb cb q c y (HAT.out.below hy))
  rw [← HAE.out] at HON
  refine wp_region_eager [(0, true), (1, true), (2, true), (3, true), (4, true), (5, true), (6, true), (7, true), (8, true), (9, true), (10, true), (11, false), (12, false), (13, true), (14, true)] (by kernel_rfl) (by kernel_rfl) (eagerOpen rfl ?_)
  have hy0 : Below w1.heap.size w1 w1.drew := below_drew1 _ _
  repeat (first
    | ((with_reducible refine eagerLoadAt 1 ?_); refine wpEager_load (by rfl) 37 _ rfl w.heap.size 0 rfl A _ (fun w' hb => HRG.out w' hb) Tryd.underlying37 rfl (infoF _ HAS.out) ?_; (try simp only [Act.put, List.setIfInBounds_toArray, List.set_cons_zero, List.set_cons_succ]); (try refine eagerOpen rfl ?_))
    | (first | (apply wpEager_take; (· rfl); (· (intro w' hb'; go_simp; try with_reducible rfl)); (try simp only [Act.put, List.setIfInBounds_toArray, List.set_cons_zero, List.set_cons_succ]); (try refine eagerOpen rfl ?_)) | (refine wpEager_skip (by rfl) ?_; (try simp only [Act.put, List.setIfInBounds_toArray, List.set_cons_zero, List.set_cons_succ]); (try refine eagerOpen rfl ?_)) | (refine wpEager_off (by rfl) ?_; (try simp only [Act.put, List.setIfInBounds_toArray, List.set_cons_zero, List.set_cons_succ]); (try refine eagerOpen rfl ?_)))
    | (apply wpEager_take; (· rfl); (· (intro w' hb'; have hk' := (HK1.out) w' hb'; go_split_ands; go_simp; try with_reducible rfl)); (try simp only [Act.put, List.setIfInBounds_toArray, List.set_cons_zero, List.set_cons_succ]); (try refine eagerOpen rfl ?_)))
  (refine wpEager_op (by rfl) (fun K hK => ?_); go_simp; (refine (HON.out _ hy0).mono ?_; rintro x y1 ⟨pb', cb', q', c', rfl, hat, hb⟩; have hy1 := hy0.trans hb; have HSM := Lib.hid (rsame_any y1 (HAT.out.below hy1) hat); clear hb hat); refine Shut.out hK _ _ (by assumption) ?_; clear hK K; (try simp only [Act.put, List.setIfInBounds_toArray, List.set_cons_zero, List.set_cons_succ]); (try refine eagerOpen rfl ?_))
  rw [← HAE.out] at HSM
  obtain ⟨F, hF⟩ : ∃ F, decide (e = only e) = F := ⟨_, rfl⟩
  rw [hF] at HSM
  have HFF := Lib.hid hF
  clear hF
  (refine wpEager_op (by rfl) (fun K hK => ?_); go_simp; (refine HSM.out.mono ?_; rintro x y2 ⟨rfl, hb⟩; have hy2 := hy1.trans (hb.mono hy1.size); clear hb); refine Shut.out hK _ _ (by assumption) ?_; clear hK K; (try simp only [Act.put, List.setIfInBounds_toArray, List.set_cons_zero, List.set_cons_succ]); (try refine eagerOpen rfl ?_))
  repeat (first | (apply wpEager_take; (· rfl); (· (intro w' hb'; go_simp; try with_reducible rfl)); (try simp only [Act.put, List.setIfInBounds_toArray, List.set_cons_zero, List.set_cons_succ]); (try refine eagerOpen rfl ?_)) | (refine wpEager_skip (by rfl) ?_; (try simp only [Act.put, List.setIfInBounds_toArray, List.set_cons_zero, List.set_cons_succ]); (try refine eagerOpen rfl ?_)) | (refine wpEager_off (by rfl) ?_; (try simp only [Act.put, List.setIfInBounds_toArray, List.set_cons_zero, List.set_cons_succ]); (try refine eagerOpen rfl ?_)))
  refine eagerEnd ?_
  have HB2 := Lib.hid (HB1.out.trans (hy2.mono HB1.out.size))
  have HR2 := Lib.hid (Below.keepOld hy2 HR1.out)
  have HAT2 := Lib.hid (HAT.out.below hy2)
  clear hy0 hy1 hy2 HB1 HR1 HAT HON HSM HRG HK1 hk d1 d2
  cases F with
  | false =>
    have HBAD : Hid (¬ Good e) := fun hg => (show ¬ e = only e from of_decide_eq_false HFF.out) hg.2.1
    have HBX := HB2
    go_wp2_with fail
    skip
    -- no line is told: HBX : Below w.heap.size w WX; HBAD : Hid (¬ Good e)
    go_ret2
    obtain ⟨f1, f2⟩ := line_bad HBAD.out
    unfold LineP
    rw [f1, f2]
    exact ⟨rfl, HBX.out⟩
  | true =>
    have HEO := Lib.hid (show e = only e from of_decide_eq_true HFF.out)
    have hx2 := HR2.out
    rw [HAE.out] at hx2
    have HEV := Lib.hid (ev_row HWF.out hx2)
    have HK2 : Hid (∀ w', Below y2.heap.size y2 w' → w'.cell? ⟨w.heap.size, 0, none⟩ = some (.int .i64 e.k)) := fun w' hb => cell_below HEV.out.k hb
    clear hx2
    have hix := idx_name e.k HKK.out
    have HEV2 := HEV
    obtain ⟨kn, hkn⟩ : ∃ kn : Nat, e.k = (kn : Int) := ⟨e.k.toNat, by have := HKK.out; omega⟩
    have HKN := Lib.hid hkn
    have HK6 : Hid (1 ≤ kn ∧ kn ≤ 6) := by have := HKK.out; constructor <;> omega
    have hk6i : (kn : Int) < 7 := by have := HK6.out; omega
    have hk6n : kn < 7 := by have := HK6.out; omega
    rw [hkn] at HK2
    obtain ⟨s0, hs0⟩ : ∃ s0, K6.getD kn [] = s0 := ⟨_, rfl⟩
    have HS0 : Hid (s0.length ≤ 20) := by show _ ≤ _; rw [← hs0]; exact k6_short kn
    have HKQ : Hid (K6.getD e.k.toNat [] = s0) := by show _ = _; rw [hkn]; exact hs0
    have hsl := HS0.out
    have hx1 : ¬ (9223372036854775807 < s0.length + 1) := by omega
    go_upto_region 3 with fail
    refine wp_region_eager [(1, true), (2, true), (0, false), (3, true), (4, false), (5, true)] (by kernel_rfl) (by kernel_rfl) (eagerOpen rfl ?_)
    have hy0 : Below y2.heap.size y2 y2.drew := below_drew1 _ _
    repeat (first
      | (first | (apply wpEager_take; (· rfl); (· (intro w' hb'; go_simp; try with_reducible rfl)); (try simp only [Act.put, List.setIfInBounds_toArray, List.set_cons_zero, List.set_cons_succ]); (try refine eagerOpen rfl ?_)) | (refine wpEager_skip (by rfl) ?_; (try simp only [Act.put, List.setIfInBounds_toArray, List.set_cons_zero, List.set_cons_succ]); (try refine eagerOpen rfl ?_)) | (refine wpEager_off (by rfl) ?_; (try simp only [Act.put, List.setIfInBounds_toArray, List.set_cons_zero, List.set_cons_succ]); (try refine eagerOpen rfl ?_)))
      | (apply wpEager_take; (· rfl); (· (intro w' hb'; have hk' := (HK2.out) w' hb'; go_split_ands; go_simp; try with_reducible rfl)); (try simp only [Act.put, List.setIfInBounds_toArray, List.set_cons_zero, List.set_cons_succ]); (try refine eagerOpen rfl ?_)))
    (refine wpEager_op (by rfl) (fun K hK => ?_); go_simp; (refine (rnames_any _).mono ?_; rintro x y3 ⟨rfl, hws, hb⟩; have hy1 := hy0.trans hb; have hcn : y3.cell? ⟨y2.heap.size, kn, none⟩ = some (.string (S s0)) := (by rw [← hs0]; exact k6_cell hws kn (by omega)); clear hws hb); refine Shut.out hK _ _ (by assumption) ?_; clear hK K; (try simp only [Act.put, List.setIfInBounds_toArray, List.set_cons_zero, List.set_cons_succ]); (try refine eagerOpen rfl ?_))
    repeat (first | (apply wpEager_take; (· rfl); (· (intro w' hb'; go_simp; try with_reducible rfl)); (try simp only [Act.put, List.setIfInBounds_toArray, List.set_cons_zero, List.set_cons_succ]); (try refine eagerOpen rfl ?_)) | (refine wpEager_skip (by rfl) ?_; (try simp only [Act.put, List.setIfInBounds_toArray, List.set_cons_zero, List.set_cons_succ]); (try refine eagerOpen rfl ?_)) | (refine wpEager_off (by rfl) ?_; (try simp only [Act.put, List.setIfInBounds_toArray, List.set_cons_zero, List.set_cons_succ]); (try refine eagerOpen rfl ?_)))
    refine wpEager_op (by rfl) (fun K hK => ?_)
    go_simp
    refine Shut.out hK _ _ hy1 ?_
    clear hK K
    (try simp only [Act.put, List.setIfInBounds_toArray, List.set_cons_zero, List.set_cons_succ]); (try refine eagerOpen rfl ?_)
    repeat (first | (apply wpEager_take; (· rfl); (· (intro w' hb'; go_simp; try with_reducible rfl)); (try simp only [Act.put, List.setIfInBounds_toArray, List.set_cons_zero, List.set_cons_succ]); (try refine eagerOpen rfl ?_)) | (refine wpEager_skip (by rfl) ?_; (try simp only [Act.put, List.setIfInBounds_toArray, List.set_cons_zero, List.set_cons_succ]); (try refine eagerOpen rfl ?_)) | (refine wpEager_off (by rfl) ?_; (try simp only [Act.put, List.setIfInBounds_toArray, List.set_cons_zero, List.set_cons_succ]); (try refine eagerOpen rfl ?_)))
    refine eagerEnd ?_
    have HB3 := Lib.hid (HB2.out.trans (hy1.mono HB2.out.size))
    have HR3 := Lib.hid (Below.keepOld hy1 HR2.out)
    have HAT3 := Lib.hid (HAT2.out.below hy1)
    clear hy0 hy1 HB2 HR2 HAT2 HEV HK2 HEV2 hcn hk6i hk6n
    have hx3 := HR3.out
    rw [HAE.out] at hx3
    have HEV := Lib.hid (ev_row HWF.out hx3)
    have hk := HEV.out.k
    rw [hkn] at hk
    clear hx3 hs0
    have hkb := HEV.out.b
    have hkt := HEV.out.tx
    have hknn := HEV.out.n
    by_cases k1 : e.k = 1
    · have m1 : ((kn : Int) == 1) = true := beq_iff_eq.2 (by omega)
      have m1' : (kn == 1) = true := beq_iff_eq.2 (by omega)
      have HGD : Hid (Good e) := ⟨HKK.out, HEO.out, fun h56 => by omega⟩
      have HLN : Hid (lineE e = s0 ++ [32] ++ textL e.b) := by
        show _ = _
        rw [lineE_words HGD.out HKQ.out (show restE e = [textL e.b] by unfold restE; rw [if_pos k1])]
        simp [Go.Lib.join_cons, Go.Lib.joinTail]
      have HTXT := Lib.hid (rText_any pb e.b.length cb e.b y3 HAT3.out.bs (by have := HBY.out; omega))
      have htl := textT_len e.b
      have hby := HBY.out
      have hx2 : ¬ (9223372036854775807 < s0.length + 1 + (textL e.b).length) := by omega
      clear k1 htl hby
      generalize textL e.b = tb at *
      go_wp2_with fail
      refine HTXT.out.mono ?_
      rintro x w4 ⟨rfl, hb4⟩
      have HBX := Lib.hid (HB3.out.trans (hb4.mono HB3.out.size))
      clear hb4 HTXT
      go_wp2_with fail
      skip
      go_ret2
      unfold LineP
      rw [HLN.out, decide_eq_true HGD.out]
      exact ⟨by first | rfl | (rw [← S_app, ← S_app]; rfl), HBX.out⟩
    have m1 : ((kn : Int) == 1) = false := beq_eq_false_iff_ne.2 (by omega)
    have m1' : (kn == 1) = false := beq_eq_false_iff_ne.2 (by omega)
    by_cases k2 : e.k = 2
    · have m2 : ((kn : Int) == 2) = true := beq_iff_eq.2 (by omega)
      have m2' : (kn == 2) = true := beq_iff_eq.2 (by omega)
      have HGD : Hid (Good e) := ⟨HKK.out, HEO.out, fun h56 => by omega⟩
      have HRST : Hid (restE e = idText e.h :: idText e.p :: e.tx.map idText) := by show _ = _; unfold restE; rw [if_neg k1, if_pos k2]
      clear k1 k2
      go_upto_region 8 with fail
      have HR0 : Hid (∀ w', Below y3.heap.size y3 w' → w'.rangeAt w.heap.size 2 (idA e.h).toList) := fun w' hb => range_below HEV.out.h hb
      have HRP : Hid (∀ w', Below y3.heap.size y3 w' → w'.rangeAt w.heap.size 34 (idA e.p).toList) := fun w' hb => range_below HEV.out.p hb
      have HTH := Lib.hid (fun y => rId_any (idA e.h) e.h y (idA_toList e.h) HWF.out.h)
      have HTP := Lib.hid (fun y => rId_any (idA e.p) e.p y (idA_toList e.p) HWF.out.p)
      have h2 := idT_len e.h HWF.out.h
      have h3 := idT_len e.p HWF.out.p
      have HJ0 : Hid (join (s0 :: ([idText e.h, idText e.p] ++ (e.tx.take 0).map idText)) [32] = s0 ++ [32] ++ idText e.h ++ [32] ++ idText e.p) := by
        show _ = _
        simp [Go.Lib.join_cons, Go.Lib.joinTail]
      have HLS : Hid (∀ i, i ≤ e.tx.length → (join (s0 :: ([idText e.h, idText e.p] ++ (e.tx.take i).map idText)) [32]).length ≤ 65 * 100003) := fun i hi => by
        refine Nat.le_trans (join_le _ 64 ?_) ?_
        · intro x hx
          rcases List.mem_cons.1 hx with rfl | hx
          · omega
          · rcases List.mem_append.1 hx with hx | hx
            · simp only [List.mem_cons, List.not_mem_nil, or_false] at hx
              rcases hx with rfl | rfl
              · exact h2
              · exact h3
            · obtain ⟨y, hy, rfl⟩ := List.mem_map.1 hx
              exact idT_len y (HWF.out.tx y (List.mem_of_mem_take hy))
        · have := HTX.out
          simp only [List.length_cons, List.length_append, List.length_map, List.length_nil, List.length_take]
          omega
      have HJS : Hid (∀ i (h : i < e.tx.length), join (s0 :: ([idText e.h, idText e.p] ++ (e.tx.take (i + 1)).map idText)) [32] = join (s0 :: ([idText e.h, idText e.p] ++ (e.tx.take i).map idText)) [32] ++ [32] ++ idText e.tx[i]) := fun i h => by
        rw [List.take_succ_eq_append_getElem h, List.map_append, ← List.append_assoc]
        exact join_snoc _ _ _
      have HLN : Hid (lineE e = join (s0 :: idText e.h :: idText e.p :: e.tx.map idText) [32]) := lineE_words HGD.out HKQ.out HRST.out
      have HTE : Hid (∀ x ∈ e.tx, x.length = 32) := HWF.out.tx
      have HHL : Hid (e.h.length = 32) := HWF.out.h
      have HPL : Hid (e.p.length = 32) := HWF.out.p
      generalize idText e.h = th at *
      generalize idText e.p = tp at *
      generalize e.h = eh at *
      generalize e.p = ep at *
      have hx2 : ¬ (9223372036854775807 < s0.length + 1 + th.length) := by omega
      have hx3 : ¬ (9223372036854775807 < s0.length + 1 + th.length + 1) := by omega
      have hx4 : ¬ (9223372036854775807 < s0.length + 1 + th.length + 1 + tp.length) := by omega
      have hst : Hid (S s0 ++ (⟨#[32]⟩ : ByteArray) ++ S th ++ (⟨#[32]⟩ : ByteArray) ++ S tp = S (join (s0 :: ([th, tp] ++ (e.tx.take 0).map idText)) [32])) := by
        show _ = _
        rw [show (⟨#[32]⟩ : ByteArray) = S [32] from rfl, S_app, S_app, S_app, S_app, HJ0.out]
      refine wp_region_eager [(0, true), (1, true), (2, true), (3, true), (4, true), (8, true), (9, true), (10, true), (5, false), (6, true), (7, true), (11, false), (12, true), (13, true)] (by kernel_rfl) (by kernel_rfl) (eagerOpen rfl ?_)
      have hy0 : Below y3.heap.size y3 y3.drew := below_drew1 _ _
      repeat (first
        | ((with_reducible refine eagerLoadAt 42 ?_); refine wpEager_load (by rfl) 25 _ rfl w.heap.size 2 rfl (idA eh) _ (fun w' hb => HR0.out w' hb) Tryd.underlying25 rfl (infoId _ (by rw [idA_size, HHL.out])) ?_; (try simp only [Act.put, List.setIfInBounds_toArray, List.set_cons_zero, List.set_cons_succ]); (try refine eagerOpen rfl ?_))
        | ((with_reducible refine eagerLoadAt 48 ?_); refine wpEager_load (by rfl) 25 _ rfl w.heap.size 34 rfl (idA ep) _ (fun w' hb => HRP.out w' hb) Tryd.underlying25 rfl (infoId _ (by rw [idA_size, HPL.out])) ?_; (try simp only [Act.put, List.setIfInBounds_toArray, List.set_cons_zero, List.set_cons_succ]); (try refine eagerOpen rfl ?_))
        | (first | (apply wpEager_take; (· rfl); (· (intro w' hb'; go_simp; try with_reducible rfl)); (try simp only [Act.put, List.setIfInBounds_toArray, List.set_cons_zero, List.set_cons_succ]); (try refine eagerOpen rfl ?_)) | (refine wpEager_skip (by rfl) ?_; (try simp only [Act.put, List.setIfInBounds_toArray, List.set_cons_zero, List.set_cons_succ]); (try refine eagerOpen rfl ?_)) | (refine wpEager_off (by rfl) ?_; (try simp only [Act.put, List.setIfInBounds_toArray, List.set_cons_zero, List.set_cons_succ]); (try refine eagerOpen rfl ?_))))
      (refine wpEager_op (by rfl) (fun K hK => ?_); go_simp; (refine (HTH.out _).mono ?_; rintro x y4 ⟨rfl, hb⟩; have hy1 := hy0.trans hb; clear hb); refine Shut.out hK _ _ (by assumption) ?_; clear hK K; (try simp only [Act.put, List.setIfInBounds_toArray, List.set_cons_zero, List.set_cons_succ]); (try refine eagerOpen rfl ?_))
      repeat (first | (apply wpEager_take; (· rfl); (· (intro w' hb'; go_simp; try with_reducible rfl)); (try simp only [Act.put, List.setIfInBounds_toArray, List.set_cons_zero, List.set_cons_succ]); (try refine eagerOpen rfl ?_)) | (refine wpEager_skip (by rfl) ?_; (try simp only [Act.put, List.setIfInBounds_toArray, List.set_cons_zero, List.set_cons_succ]); (try refine eagerOpen rfl ?_)) | (refine wpEager_off (by rfl) ?_; (try simp only [Act.put, List.setIfInBounds_toArray, List.set_cons_zero, List.set_cons_succ]); (try refine eagerOpen rfl ?_)))
      (refine wpEager_op (by rfl) (fun K hK => ?_); go_simp; (refine (HTP.out _).mono ?_; rintro x y5 ⟨rfl, hb⟩; have hy2 := hy1.trans (hb.mono hy1.size); clear hb); refine Shut.out hK _ _ (by assumption) ?_; clear hK K; (try simp only [Act.put, List.setIfInBounds_toArray, List.set_cons_zero, List.set_cons_succ]); (try refine eagerOpen rfl ?_))
      repeat (first | (apply wpEager_take; (· rfl); (· (intro w' hb'; go_simp; try with_reducible rfl)); (try simp only [Act.put, List.setIfInBounds_toArray, List.set_cons_zero, List.set_cons_succ]); (try refine eagerOpen rfl ?_)) | (refine wpEager_skip (by rfl) ?_; (try simp only [Act.put, List.setIfInBounds_toArray, List.set_cons_zero, List.set_cons_succ]); (try refine eagerOpen rfl ?_)) | (refine wpEager_off (by rfl) ?_; (try simp only [Act.put, List.setIfInBounds_toArray, List.set_cons_zero, List.set_cons_succ]); (try refine eagerOpen rfl ?_)))
      refine eagerEnd ?_
      rw [hst.out]
      have HB5 := Lib.hid (HB3.out.trans (hy2.mono HB3.out.size))
      have HI5 := Lib.hid (HAT3.out.ids.below hy2)
      have hkt5 := Lib.hid (cell_below hkt hy2)
      have HWL5 : Hid (w.heap.size < y5.heap.size) := Nat.lt_of_lt_of_le (Array.getElem?_eq_some_iff.1 HR3.out).1 hy2.size
      clear hy0 hy1 hy2 hst HR0 HRP HTH HTP hx2 hx3 hx4 h2 h3 hk hkb hkt hknn hx1 hsl HEV HAT3 HR3 HB3
      generalize y3.heap.size = gy3 at *
      go_wp2_with fail
      go_loopw [4, 5] (fun v j wr => ∃ i : Nat, i ≤ e.tx.length ∧ j = .int .i64 i ∧ v = .string (S (join (s0 :: ([th, tp] ++ (e.tx.take i).map idText)) [32])) ∧ Below y5.heap.size y5 wr) (fun _ j _ => e.tx.length - (intOf j).toNat)
      case atStart => exact ⟨0, by omega, rfl, rfl, Below.refl _ _⟩
      case round =>
        obtain ⟨i, hi, rfl, rfl, hbr⟩ := hrel
        have HBR := Lib.hid hbr
        have hktr := cell_below hkt5.out hbr
        clear hbr
        have hle5 := HI5.out.sl.le
        have hmx5 := HI5.out.sl.max
        have hct5 := HI5.out.count
        by_cases hlt : i < e.tx.length
        · have hd : decide ((i : Int) < (e.tx.length : Int)) = true := decide_eq_true (by omega)
          have hd2 : decide (i < e.tx.length) = true := decide_eq_true hlt
          obtain ⟨bi, oi, rfl⟩ := HI5.out.sl.addr (by omega) (by omega)
          have HRX := Lib.hid (range_below (HI5.out.range (by omega) i hlt) HBR.out)
          have HLX : Hid ((e.tx[i]'hlt).length = 32) := HTE.out _ (List.getElem_mem hlt)
          have HJ := Lib.hid (HJS.out i hlt)
          have hll := HLS.out i (by omega)
          generalize e.tx[i]'hlt = x at *
          generalize join (s0 :: ([th, tp] ++ (e.tx.take i).map idText)) [32] = acc at *
          have hq1 : ¬ (9223372036854775807 < acc.length + 1) := by omega
          have hq2 : ¬ (9223372036854775807 < acc.length + 1 + (idText x).length) := by have := idT_len x HLX.out; omega
          have HTI := Lib.hid (rId_any (idA x) x wr (idA_toList x) HLX.out)
          generalize idText x = tx at *
          go_wp2_with ((with_reducible refine wpAt 67 ?_); refine loadM (by rfl) 25 _ rfl bi (oi + i * 32) rfl (idA x) _ HRX.out Tryd.underlying25 rfl (infoId _ (by rw [idA_size, HLX.out])) ?_)
          refine HTI.out.mono ?_
          rintro z w7 ⟨rfl, hb7⟩
          have HB7 := Lib.hid (HBR.out.trans (hb7.mono HBR.out.size))
          clear hb7 HTI HRX
          go_wp2_with fail
          skip
          refine ⟨?_, ?measure⟩
          (repeat apply Exists.intro)
          refine ⟨?rel, ?eee⟩
          case eee => rfl
          case rel => exact ⟨i + 1, by omega, by go_num, by rw [HJ.out, ← S_app, ← S_app]; rfl, HB7.out⟩
          case measure => simp [intOf]; omega
        · have hd : decide ((i : Int) < (e.tx.length : Int)) = false := decide_eq_false (by omega)
          have hd2 : decide (i < e.tx.length) = false := decide_eq_false hlt
          obtain rfl : i = e.tx.length := by omega
          have HBX : Hid (Below w.heap.size w wr) := HB5.out.trans (HBR.out.mono HB5.out.size)
          go_wp2_with fail
          skip
          go_ret2
          unfold LineP
          rw [HLN.out, decide_eq_true HGD.out]
          exact ⟨by first | rfl | (rw [← S_app, ← S_app]; rfl), HBX.out⟩
    have m2 : ((kn : Int) == 2) = false := beq_eq_false_iff_ne.2 (by omega)
    have m2' : (kn == 2) = false := beq_eq_false_iff_ne.2 (by omega)
    by_cases k34 : e.k = 3 ∨ e.k = 4
    · have HGD : Hid (Good e) := ⟨HKK.out, HEO.out, fun h56 => by omega⟩
      have HLN : Hid (lineE e = s0 ++ [32] ++ idText e.id) := by
        show _ = _
        rw [lineE_words HGD.out HKQ.out (show restE e = [idText e.id] by unfold restE; rw [if_neg k1, if_neg k2, if_neg (by omega)])]
        simp [Go.Lib.join_cons, Go.Lib.joinTail]
      have HTXT := Lib.hid (rId_any (idA e.id) e.id y3 (idA_toList e.id) HWF.out.id)
      have htl := idT_len e.id HWF.out.id
      have hx2 : ¬ (9223372036854775807 < s0.length + 1 + (idText e.id).length) := by omega
      have HIL : Hid (e.id.length = 32) := HWF.out.id
      have HRI : Hid (y3.rangeAt w.heap.size 67 (idA e.id).toList) := HEV.out.id
      clear htl k1 k2
      generalize idText e.id = tb at *
      generalize e.id = ei at *
      rcases k34 with k3 | k4
      · have m3 : ((kn : Int) == 3) = true := beq_iff_eq.2 (by omega)
        have m3' : (kn == 3) = true := beq_iff_eq.2 (by omega)
        clear k3
        skip
        go_wp2_with ((with_reducible refine wpAt 77 ?_); refine loadM (by rfl) 25 _ rfl w.heap.size 67 rfl (idA ei) _ HRI.out Tryd.underlying25 rfl (infoId _ (by rw [idA_size, HIL.out])) ?_)
        refine HTXT.out.mono ?_
        rintro x w4 ⟨rfl, hb4⟩
        have HBX := Lib.hid (HB3.out.trans (hb4.mono HB3.out.size))
        clear hb4 HTXT
        go_wp2_with fail
        skip
        go_ret2
        unfold LineP
        rw [HLN.out, decide_eq_true HGD.out]
        exact ⟨by first | rfl | (rw [← S_app, ← S_app]; rfl), HBX.out⟩
      · have m3 : ((kn : Int) == 3) = false := beq_eq_false_iff_ne.2 (by omega)
        have m3' : (kn == 3) = false := beq_eq_false_iff_ne.2 (by omega)
        have m4 : ((kn : Int) == 4) = true := beq_iff_eq.2 (by omega)
        have m4' : (kn == 4) = true := beq_iff_eq.2 (by omega)
        clear k4
        skip
        go_wp2_with ((with_reducible refine wpAt 77 ?_); refine loadM (by rfl) 25 _ rfl w.heap.size 67 rfl (idA ei) _ HRI.out Tryd.underlying25 rfl (infoId _ (by rw [idA_size, HIL.out])) ?_)
        refine HTXT.out.mono ?_
        rintro x w4 ⟨rfl, hb4⟩
        have HBX := Lib.hid (HB3.out.trans (hb4.mono HB3.out.size))
        clear hb4 HTXT
        go_wp2_with fail
        skip
        go_ret2
        unfold LineP
        rw [HLN.out, decide_eq_true HGD.out]
        exact ⟨by first | rfl | (rw [← S_app, ← S_app]; rfl), HBX.out⟩
    have m3 : ((kn : Int) == 3) = false := beq_eq_false_iff_ne.2 (by omega)
    have m3' : (kn == 3) = false := beq_eq_false_iff_ne.2 (by omega)
    have m4 : ((kn : Int) == 4) = false := beq_eq_false_iff_ne.2 (by omega)
    have m4' : (kn == 4) = false := beq_eq_false_iff_ne.2 (by omega)
    have HK56 : Hid (e.k = 5 ∨ e.k = 6) := by
      show _ ∨ _
      have := HKK.out
      omega
    have HNE : Hid (e.n ∈ numsE e) := by
      show _ ∈ _
      unfold numsE
      split <;> simp
    have HRST : Hid (restE e = (numsE e).map (fun x => decL x.toNat)) := by show _ = _; unfold restE; rw [if_neg k1, if_neg k2, if_pos HK56.out]
    have HRN := Lib.hid (rnum_any e.n y3)
    clear k1 k2 k34
    by_cases hn : okN e.n
    rotate_left
    · have d0 : decide (okN e.n) = false := decide_eq_false hn
      have HBAD : Hid (¬ Good e) := fun hg => hn (hg.2.2 HK56.out _ HNE.out)
      rw [d0] at HRN
      clear hn d0
      go_wp2_with fail
      refine HRN.out.mono ?_
      rintro x w4 ⟨rfl, rfl⟩
      have HBX := HB3
      go_wp2_with fail
      skip
      -- no line is told: HBX : Below w.heap.size w WX; HBAD : Hid (¬ Good e)
      go_ret2
      obtain ⟨f1, f2⟩ := line_bad HBAD.out
      unfold LineP
      rw [f1, f2]
      exact ⟨rfl, HBX.out⟩
    have d0 : decide (okN e.n) = true := decide_eq_true hn
    obtain ⟨v, hv⟩ : ∃ v : Nat, e.n = (v : Int) := ⟨e.n.toNat, by unfold okN at hn; omega⟩
    have HVN := Lib.hid hv
    have HVB : Hid (v ≤ 65535) := by unfold okN at hn; show _ ≤ _; omega
    have HOKN := Lib.hid hn
    rw [d0] at HRN
    rw [hv] at hknn HRN
    have hwrap : IntKind.u64.wrap (v : Int) = (v : Int) := by rw [IntKind.wrap_u64]; have := HVB.out; omega
    have hdl : (decL v).length ≤ 20 := by have := dec_len v (by have := HVB.out; omega); omega
    have hx2 : ¬ (9223372036854775807 < s0.length + 1 + (decL v).length) := by omega
    have HNV := Lib.hid (fun (y : World) => rNum_any v (by have := HVB.out; omega) y)
    have HDV : Hid (decL e.n.toNat = decL v) := by show _ = _; rw [hv]; rfl
    have HDL := Lib.hid hdl
    clear hn d0 hv
    go_wp2_with fail
    refine HRN.out.mono ?_
    rintro x w4 ⟨rfl, rfl⟩
    clear hdl
    generalize decL v = dv at *
    go_wp2_with fail
    refine (HNV.out y3).mono ?_
    rintro x w5 ⟨rfl, rfl⟩
    have HUC : Hid (∀ i (h : i < 3), y3.cell? ⟨w.heap.size, 100 + i, none⟩ = some (.int .i64 ([e.u0, e.u1, e.u2].getD i 0))) := fun i h => by
      have hi : i = 0 ∨ i = 1 ∨ i = 2 := by omega
      rcases hi with rfl | rfl | rfl
      · exact HEV.out.u0
      · exact HEV.out.u1
      · exact HEV.out.u2
    have HN5 : Hid (e.k = 5 → numsE e = [e.n]) := fun h => by unfold numsE; rw [if_pos h]
    have HN6 : Hid (e.k = 6 → numsE e = e.n :: [e.u0, e.u1, e.u2]) := fun h => by unfold numsE; rw [if_neg (by omega)]
    have HJ0 : Hid (s0 ++ [32] ++ dv = join (s0 :: ([dv] ++ ([e.u0, e.u1, e.u2].take 0).map (fun x => decL x.toNat))) [32]) := by
      show _ = _
      simp [Go.Lib.join_cons, Go.Lib.joinTail]
    have HJS : Hid (∀ i (h : i < 3), join (s0 :: ([dv] ++ ([e.u0, e.u1, e.u2].take (i + 1)).map (fun x => decL x.toNat))) [32] = join (s0 :: ([dv] ++ ([e.u0, e.u1, e.u2].take i).map (fun x => decL x.toNat))) [32] ++ [32] ++ decL ([e.u0, e.u1, e.u2].getD i 0).toNat) := fun i h => by
      rw [take_getD _ i (show i < [e.u0, e.u1, e.u2].length from h), List.map_append, ← List.append_assoc]
      exact join_snoc _ _ _
    have HTS : Hid (∀ i (h : i < 3), [e.u0, e.u1, e.u2].take (i + 1) = [e.u0, e.u1, e.u2].take i ++ [[e.u0, e.u1, e.u2].getD i 0]) := fun i h => take_getD _ i (show i < [e.u0, e.u1, e.u2].length from h)
    have HMEM : Hid (∀ i (h : i < 3), [e.u0, e.u1, e.u2].getD i 0 ∈ [e.u0, e.u1, e.u2]) := fun i h => mem_getD _ i (show i < [e.u0, e.u1, e.u2].length from h)
    have HLS : Hid (∀ i, (∀ x ∈ [e.u0, e.u1, e.u2].take i, okN x) → (join (s0 :: ([dv] ++ ([e.u0, e.u1, e.u2].take i).map (fun x => decL x.toNat))) [32]).length ≤ 5 * 21) := fun i hi => by
      refine Nat.le_trans (join_le _ 20 ?_) ?_
      · intro x hx
        rcases List.mem_cons.1 hx with rfl | hx
        · exact HS0.out
        · rcases List.mem_append.1 hx with hx | hx
          · rw [List.mem_singleton] at hx; rw [hx]; exact HDL.out
          · obtain ⟨y, hy, rfl⟩ := List.mem_map.1 hx
            have h1 := hi y hy
            unfold okN at h1
            exact dec_len y.toNat (by omega)
      · simp only [List.length_cons, List.length_append, List.length_map, List.length_nil, List.length_take]
        omega
    have HTL : Hid ([e.u0, e.u1, e.u2].take 3 = [e.u0, e.u1, e.u2]) := rfl
    have HT0 : Hid ([e.u0, e.u1, e.u2].take 0 = []) := rfl
    obtain ⟨us, hus⟩ : ∃ us, us = [e.u0, e.u1, e.u2] := ⟨_, rfl⟩
    have hst : Hid (S s0 ++ (⟨#[32]⟩ : ByteArray) ++ S dv = S (join (s0 :: ([dv] ++ (us.take 0).map (fun x => decL x.toNat))) [32])) := by
      show _ = _
      rw [show (⟨#[32]⟩ : ByteArray) = S [32] from rfl, S_app, S_app, hus, HJ0.out]
    have HUL : Hid (us.length = 3) := by show _ = _; rw [hus]; rfl
    rw [← hus] at HUC HN6 HJS HTS HMEM HLS HTL HT0
    clear HJ0 hus HEV HRN hx1 hsl hkb hkt hknn hwrap HNV
    go_upto_region 20 with fail
    rw [hst.out]
    clear hx2
    go_wp2_with fail
    go_loopw [4, 6] (fun v j wr => ∃ i : Nat, i ≤ 3 ∧ j = .int .i64 i ∧ v = .string (S (join (s0 :: ([dv] ++ (us.take i).map (fun x => decL x.toNat))) [32])) ∧ (∀ x ∈ us.take i, okN x) ∧ (i = 0 ∨ e.k = 6) ∧ wr = y3) (fun _ j _ => 3 - (intOf j).toNat)
    case atStart => exact ⟨0, by omega, rfl, rfl, (fun x hx => by rw [HT0.out] at hx; cases hx), .inl rfl, rfl⟩
    case round =>
      obtain ⟨i, hi, rfl, rfl, hok, hi6, rfl⟩ := hrel
      have HOK := Lib.hid hok
      have hll := HLS.out i hok
      clear hok
      by_cases k6 : e.k = 6
      · have m6 : ((kn : Int) == 6) = true := beq_iff_eq.2 (by omega)
        have m6' : (kn == 6) = true := beq_iff_eq.2 (by omega)
        have HE6 := Lib.hid k6
        clear k6 hi6
        by_cases hlt : i < 3
        · have hd : decide ((i : Int) < 3) = true := decide_eq_true (by omega)
          have hd2 : decide (i < 3) = true := decide_eq_true hlt
          have hi3 : (i : Int) < 3 := by omega
          have hcu := HUC.out i hlt
          have HJ := Lib.hid (HJS.out i hlt)
          have HTI := Lib.hid (HTS.out i hlt)
          have HMI := Lib.hid (HMEM.out i hlt)
          generalize us.getD i 0 = x at *
          generalize join (s0 :: ([dv] ++ (us.take i).map (fun x => decL x.toNat))) [32] = acc at *
          have HRN := Lib.hid (rnum_any x wr)
          by_cases hx : okN x
          rotate_left
          · have d0 : decide (okN x) = false := decide_eq_false hx
            have HBAD : Hid (¬ Good e) := fun hg => hx (hg.2.2 (.inr HE6.out) _ (by rw [HN6.out HE6.out]; exact List.mem_cons_of_mem _ HMI.out))
            have HBX := HB3
            rw [d0] at HRN
            clear hx d0
            go_wp2_with fail
            refine HRN.out.mono ?_
            rintro x w4 ⟨rfl, rfl⟩
            go_wp2_with fail
            skip
            -- no line is told: HBX : Below w.heap.size w WX; HBAD : Hid (¬ Good e)
            go_ret2
            obtain ⟨f1, f2⟩ := line_bad HBAD.out
            unfold LineP
            rw [f1, f2]
            exact ⟨rfl, HBX.out⟩
          have d0 : decide (okN x) = true := decide_eq_true hx
          obtain ⟨u, hu⟩ : ∃ u : Nat, x = (u : Int) := ⟨x.toNat, by unfold okN at hx; omega⟩
          have HXO := Lib.hid hx
          have hub : u ≤ 65535 := by unfold okN at hx; omega
          rw [d0] at HRN
          have HXU := Lib.hid hu
          rw [hu] at hcu HRN
          have hwrap : IntKind.u64.wrap (u : Int) = (u : Int) := by rw [IntKind.wrap_u64]; omega
          have hdl : (decL u).length ≤ 20 := dec_len u (by omega)
          have HNU := Lib.hid (rNum_any u (by omega) wr)
          have HDU : Hid (decL x.toNat = decL u) := by show _ = _; rw [hu]; rfl
          have hq1 : ¬ (9223372036854775807 < acc.length + 1) := by omega
          have hq2 : ¬ (9223372036854775807 < acc.length + 1 + (decL u).length) := by omega
          clear hx d0 hu hdl hll
          generalize decL u = du at *
          go_wp2_with fail
          refine HRN.out.mono ?_
          rintro x w4 ⟨rfl, rfl⟩
          go_wp2_with fail
          refine HNU.out.mono ?_
          rintro x w4 ⟨rfl, rfl⟩
          go_wp2_with fail
          skip
          refine ⟨?_, ?measure⟩
          (repeat apply Exists.intro)
          refine ⟨?rel, ?eee⟩
          case eee => rfl
          case rel => exact ⟨i + 1, by omega, by go_num, by rw [HJ.out, HDU.out, ← S_app, ← S_app]; rfl, (fun y hy => by
            rw [HTI.out, List.mem_append, List.mem_singleton] at hy
            rcases hy with hy | rfl
            · exact HOK.out y hy
            · exact HXO.out), .inr HE6.out, by first | rfl | trivial⟩
          case measure => simp [intOf]; omega
        · have hd : decide ((i : Int) < 3) = false := decide_eq_false (by omega)
          obtain rfl : i = 3 := by omega
          have HGD : Hid (Good e) := ⟨HKK.out, HEO.out, fun _ y hy => by
            rw [HN6.out HE6.out] at hy
            rcases List.mem_cons.1 hy with rfl | hy
            · exact HOKN.out
            · exact HOK.out y (by rw [HTL.out]; exact hy)⟩
          have HLN : Hid (lineE e = join (s0 :: ([dv] ++ (us.take 3).map (fun x => decL x.toNat))) [32]) := by
            show _ = _
            rw [lineE_words HGD.out HKQ.out HRST.out, HN6.out HE6.out, HTL.out, List.map_cons, HDV.out]; rfl
          have HBX := HB3
          clear hll
          generalize join (s0 :: ([dv] ++ (us.take 3).map (fun x => decL x.toNat))) [32] = acc at *
          go_wp2_with fail
          skip
          go_ret2
          unfold LineP
          rw [HLN.out, decide_eq_true HGD.out]
          exact ⟨by first | rfl | (rw [← S_app, ← S_app]; rfl), HBX.out⟩
      · have k5 : e.k = 5 := HK56.out.resolve_right k6
        obtain rfl : i = 0 := hi6.resolve_right k6
        have m6 : ((kn : Int) == 6) = false := beq_eq_false_iff_ne.2 (by omega)
        have m6' : (kn == 6) = false := beq_eq_false_iff_ne.2 (by omega)
        have HGD : Hid (Good e) := ⟨HKK.out, HEO.out, fun _ y hy => by
          rw [HN5.out k5, List.mem_singleton] at hy
          rw [hy]; exact HOKN.out⟩
        have HLN : Hid (lineE e = join (s0 :: ([dv] ++ (us.take 0).map (fun x => decL x.toNat))) [32]) := by
          show _ = _
          rw [lineE_words HGD.out HKQ.out HRST.out, HN5.out k5, HT0.out, List.map_cons, HDV.out]; rfl
        have HBX := HB3
        clear hll k6 k5 hi6
        generalize join (s0 :: ([dv] ++ (us.take 0).map (fun x => decL x.toNat))) [32] = acc at *
        go_wp2_with fail
        skip
        go_ret2
        unfold LineP
        rw [HLN.out, decide_eq_true HGD.out]
        exact ⟨by first | rfl | (rw [← S_app, ← S_app]; rfl), HBX.out⟩
end Go.Proofs.YtcddgbobbogpgaaDoor.Scr

namespace Go.Proofs.YtcddgbobbogpgaaDoor.Scr
open Go.RowKit Go.Mir Go.Mir.Hx Go.Mir.Parts HexW Rpl
open Go.Lib (join joinTail)

theorem cl_len (c : Cf) : c.l.length = 6 := rfl
set_option maxRecDepth 100000 in
set_option maxHeartbeats 3200000 in
theorem rprint_any (c : Cf) (p : Option Addr) (n cc : Nat) (l : List ER) (w : World) (hE : Es w p n cc l) (hf : Fit l) :
    Calls Tryd.prog 14 #[.agg (cfA c), .slice p n cc] w (PrintP c (evs l) w) := by
  have HE := Lib.hid hE
  have HF := Lib.hid hf
  obtain rfl : l.length = n := hE.count
  have hle := hE.sl.le
  have hmx := hE.sl.max
  have hal := Below.allocs w (.cells (cfA c) 46)
  have hrow := heap_alloc_last w (.cells (cfA c) 46)
  have HB1 := Lib.hid hal
  have hd : (w.alloc (.cells (cfA c) 46)).cell? ⟨w.heap.size, 0, none⟩ = some (.int .i64 c.d) := by rw [cell_of_row _ _ _ _ _ _ hrow]; rfl
  have hs : (w.alloc (.cells (cfA c) 46)).cell? ⟨w.heap.size, 1, none⟩ = some (.int .i64 c.s) := by rw [cell_of_row _ _ _ _ _ _ hrow]; rfl
  have hk : (w.alloc (.cells (cfA c) 46)).cell? ⟨w.heap.size, 2, none⟩ = some (.int .i64 c.k) := by rw [cell_of_row _ _ _ _ _ _ hrow]; rfl
  have he : (w.alloc (.cells (cfA c) 46)).cell? ⟨w.heap.size, 3, none⟩ = some (.int .i64 c.e) := by rw [cell_of_row _ _ _ _ _ _ hrow]; rfl
  have ha : (w.alloc (.cells (cfA c) 46)).cell? ⟨w.heap.size, 4, none⟩ = some (.int .i64 c.a) := by rw [cell_of_row _ _ _ _ _ _ hrow]; rfl
  have ho : (w.alloc (.cells (cfA c) 46)).cell? ⟨w.heap.size, 5, none⟩ = some (.int .i64 c.o) := by rw [cell_of_row _ _ _ _ _ _ hrow]; rfl
  clear hE hf hal hrow
  go_enter Tryd.func14, Tryd.ntmps14
  go_upto_region 2 with fail
  generalize w.alloc (.cells (cfA c) 46) = w1 at *
  have hal := Below.allocs w1 (.cells #[.int .i64 c.d, .int .i64 c.s, .int .i64 c.k, .int .i64 c.e, .int .i64 c.a, .int .i64 c.o] 3)
  have HZS : Hid (Zs (w1.alloc (.cells #[.int .i64 c.d, .int .i64 c.s, .int .i64 c.k, .int .i64 c.e, .int .i64 c.a, .int .i64 c.o] 3)) (some ⟨w1.heap.size, 0, none⟩) 6 6 c.l) := Zs.lit w1 3 [c.d, c.s, c.k, c.e, c.a, c.o] (show 6 ≤ 65536 by decide)
  have HB2 := Lib.hid (HB1.out.trans (hal.mono HB1.out.size))
  clear hal HB1
  go_upto_region 4 with fail
  clear hd hs hk he ha ho
  generalize w1.alloc (.cells #[.int .i64 c.d, .int .i64 c.s, .int .i64 c.k, .int .i64 c.e, .int .i64 c.a, .int .i64 c.o] 3) = w2 at *
  generalize w1.heap.size = g at *
  have HCL : Hid (c.l.length = 6) := cl_len c
  have HCE : Hid (∀ i (h : i < 6), w2.cell? ⟨g, i, none⟩ = some (.int .i64 (c.l.getD i 0))) := fun i h => by
    have h2 : i < c.l.length := h
    have := HZS.out.at i h2
    rw [Nat.zero_add] at this
    rw [this, List.getD_eq_getElem?_getD, List.getElem?_eq_getElem h2]; rfl
  have HJS : Hid (∀ i (h : i < 6), join (confW :: (c.l.take (i + 1)).map (fun x => decL x.toNat)) [32] = join (confW :: (c.l.take i).map (fun x => decL x.toNat)) [32] ++ [32] ++ decL (c.l.getD i 0).toNat) := fun i h => by
    rw [take_getD c.l i h, List.map_append]
    exact join_snoc _ _ _
  have HTS : Hid (∀ i (h : i < 6), c.l.take (i + 1) = c.l.take i ++ [c.l.getD i 0]) := fun i h => take_getD c.l i h
  have HMM : Hid (∀ i (h : i < 6), c.l.getD i 0 ∈ c.l) := fun i h => mem_getD c.l i h
  have HLS : Hid (∀ i, (∀ x ∈ c.l.take i, okC x) → (join (confW :: (c.l.take i).map (fun x => decL x.toNat)) [32]).length ≤ 7 * 21) := fun i hi => by
    refine Nat.le_trans (join_le _ 20 ?_) ?_
    · intro x hx
      rcases List.mem_cons.1 hx with rfl | hx
      · decide
      · obtain ⟨y, hy, rfl⟩ := List.mem_map.1 hx
        have := hi y hy
        unfold okC at this
        exact dec_len y.toNat (by omega)
    · have h6 := HCL.out
      simp only [List.length_cons, List.length_map, List.length_take]
      omega
  have HLAST : Hid (join (confW :: (c.l.take 6).map (fun x => decL x.toNat)) [32] = headL c ∧ c.l.take 6 = c.l) := by
    have h1 : c.l.take 6 = c.l := List.take_of_length_le (by rw [HCL.out]; exact Nat.le_refl _)
    exact ⟨by rw [h1]; rfl, h1⟩
  have HFST : Hid (S (join (confW :: (c.l.take 0).map (fun x => decL x.toNat)) [32]) = ⟨#[99, 111, 110, 102, 105, 103]⟩) := by
    show _ = _
    rw [List.take_zero, List.map_nil]; kernel_rfl
  clear HZS
  go_wp2_with fail
  go_loopw [6, 8] (fun v j wr => ∃ i : Nat, i ≤ 6 ∧ j = .int .i64 i ∧ v = .string (S (join (confW :: (c.l.take i).map (fun x => decL x.toNat)) [32])) ∧ (∀ x ∈ c.l.take i, okC x) ∧ wr = w2) (fun _ j _ => 6 - (intOf j).toNat)
  case atStart => exact ⟨0, by omega, rfl, by rw [HFST.out], (fun x hx => by rw [List.take_zero] at hx; cases hx), rfl⟩
  case round =>
    obtain ⟨i, hi, rfl, rfl, hok, rfl⟩ := hrel
    have HOK := Lib.hid hok
    have hll := HLS.out i hok
    clear hok
    by_cases hlt : i < 6
    · have hd1 : decide ((i : Int) < 6) = true := decide_eq_true (by omega)
      have hd2 : decide (i < 6) = true := decide_eq_true hlt
      have hi1 : (i : Int) < 6 := by omega
      have hcu := HCE.out i hlt
      have HJ := Lib.hid (HJS.out i hlt)
      have HTI := Lib.hid (HTS.out i hlt)
      have HMI := Lib.hid (HMM.out i hlt)
      generalize c.l.getD i 0 = x at *
      generalize join (confW :: (c.l.take i).map (fun x => decL x.toNat)) [32] = acc at *
      by_cases h0 : x < 0
      · have e1 : decide (x < 0) = true := decide_eq_true h0
        have HP : Hid (printB c (evs l) = ([], 1)) := print_nc (fun h => by have := h x HMI.out; unfold okC at this; omega)
        clear h0
        go_wp2_with fail
        go_ret2
        unfold PrintP
        rw [HP.out]
        exact ⟨rfl, HB2.out⟩
      have e1 : decide (x < 0) = false := decide_eq_false h0
      by_cases h9 : 100000 < x
      · have e2 : decide (100000 < x) = true := decide_eq_true h9
        have HP : Hid (printB c (evs l) = ([], 1)) := print_nc (fun h => by have := h x HMI.out; unfold okC at this; omega)
        clear h0 h9
        go_wp2_with fail
        go_ret2
        unfold PrintP
        rw [HP.out]
        exact ⟨rfl, HB2.out⟩
      have e2 : decide (100000 < x) = false := decide_eq_false h9
      obtain ⟨u, hu⟩ : ∃ u : Nat, x = (u : Int) := ⟨x.toNat, by omega⟩
      have HXO : Hid (okC x) := ⟨by omega, by omega⟩
      have hub : u ≤ 100000 := by omega
      have hwrap : IntKind.u64.wrap (u : Int) = (u : Int) := by rw [IntKind.wrap_u64]; omega
      have hdl : (decL u).length ≤ 20 := dec_len u (by omega)
      have HNU := Lib.hid (rNum_any u (by omega) wr)
      have HDU : Hid (decL x.toNat = decL u) := by show _ = _; rw [hu]; rfl
      have hq1 : ¬ (9223372036854775807 < acc.length + 1) := by omega
      have hq2 : ¬ (9223372036854775807 < acc.length + 1 + (decL u).length) := by omega
      rw [hu] at hcu e1 e2
      clear h0 h9 hu hdl hll
      generalize decL u = du at *
      go_wp2_with fail
      refine HNU.out.mono ?_
      rintro y w4 ⟨rfl, rfl⟩
      go_wp2_with fail
      go_roundw
      case rel => exact ⟨i + 1, by omega, by go_num, by rw [HJ.out, HDU.out, ← S_app, ← S_app]; rfl, (fun y hy => by
        rw [HTI.out, List.mem_append, List.mem_singleton] at hy
        rcases hy with hy | rfl
        · exact HOK.out y hy
        · exact HXO.out), by first | rfl | trivial⟩
      case measure => simp [intOf]; omega
    have hd1 : decide ((i : Int) < 6) = false := decide_eq_false (by omega)
    obtain rfl : i = 6 := by omega
    rw [show ((6 : Nat) : Int) = 6 from rfl] at hd1 ⊢
    obtain ⟨hla1, hla2⟩ := HLAST.out
    have HOKC : Hid (∀ x ∈ c.l, okC x) := fun x hx => HOK.out x (by rw [hla2]; exact hx)
    rw [hla1] at hll ⊢
    have HJL : Hid ((headL c).length ≤ 147) := hll
    have hx1 : ¬ (9223372036854775807 < (headL c).length + 1) := by omega
    have HTX : Hid (textB c (evs l) = flatT (headL c :: (evs l).map lineE)) := rfl
    clear hla1 hla2 HLAST HFST HLS HMM HTS HJS HCE HOK hll
    generalize headL c = hd at *
    have HFL : Hid (∀ i, i ≤ l.length → (hd ++ [10] ++ flatT (((evs l).take i).map lineE)).length ≤ 148 + 21001 * 900000001) := fun i hi => by
      have h1 := HJL.out
      have h2 := flat_le 900000000 (((evs l).take i).map lineE) (fun x hx => by
        obtain ⟨e, he, rfl⟩ := List.mem_map.1 hx
        obtain ⟨r, hr, rfl⟩ := List.mem_map.1 (List.mem_of_mem_take he)
        exact lineE_le (HE.out.each r hr).wf (HF.out.2 r hr).1 (HF.out.2 r hr).2)
      have h3 : (((evs l).take i).map lineE).length ≤ 21001 := by
        have := HF.out.1
        rw [List.length_map, List.length_take]
        simp only [evs, List.length_map]
        omega
      have h4 : (((evs l).take i).map lineE).length * (900000000 + 1) ≤ 21001 * 900000001 := Nat.mul_le_mul_right _ h3
      rw [List.length_append, List.length_append]
      simp only [List.length_cons, List.length_nil]
      omega
    have HF0 : Hid (hd ++ [10] = hd ++ [10] ++ flatT (((evs l).take 0).map lineE)) := by show _ = _; simp [flatT]
    have HFS : Hid (∀ i (h : i < l.length), hd ++ [10] ++ flatT (((evs l).take (i + 1)).map lineE) = hd ++ [10] ++ flatT (((evs l).take i).map lineE) ++ (lineE (l[i]).e ++ [10])) := fun i h => by
      rw [evs_take l i h, List.map_append, List.map_cons, List.map_nil, flat_snoc, ← List.append_assoc]
    have HTT : Hid (textB c (evs l) = hd ++ [10] ++ flatT (((evs l).take l.length).map lineE)) := by
      show _ = _
      rw [HTX.out, List.take_of_length_le (by simp [evs])]
      simp [flatT]
    obtain ⟨a0, ha0⟩ : ∃ a0, a0 = hd ++ [10] ++ flatT (((evs l).take 0).map lineE) := ⟨_, rfl⟩
    have HA0 := Lib.hid ha0
    have hst : Hid (S hd ++ (⟨#[10]⟩ : ByteArray) = S a0) := by
      show _ = _
      rw [ha0, ← HF0.out]
      exact ByteArray.mk_append_mk hd [10]
    clear ha0
    clear HTX HF0
    go_upto_region 10 with fail
    rw [hst.out]
    clear hx1
    go_wp2_with fail
    go_loopw [6, 9, 10, 11] (fun v j _ _ wq => ∃ i : Nat, i ≤ l.length ∧ j = .int .i64 i ∧ v = .string (S (hd ++ [10] ++ flatT (((evs l).take i).map lineE))) ∧ (∀ e ∈ (evs l).take i, Good e) ∧ Below w.heap.size w wq) (fun _ j _ _ _ => l.length - (intOf j).toNat)
    case atStart => exact ⟨0, by omega, rfl, by rw [HA0.out], (fun e he => by simp at he), HB2.out⟩
    case round =>
      obtain ⟨i, hi, rfl, rfl, hgd, hbr⟩ := hrel
      have HGP := Lib.hid hgd
      have HBR := Lib.hid hbr
      clear hgd hbr
      by_cases hlt : i < l.length
      · have hd1 : decide ((i : Int) < (l.length : Int)) = true := decide_eq_true (by omega)
        have hd2 : decide (i < l.length) = true := decide_eq_true hlt
        have hi1 : (i : Int) < (l.length : Int) := by omega
        obtain ⟨bl, ol, rfl⟩ := HE.out.sl.addr (by omega) (by omega)
        have HRG := Lib.hid ((HE.out.below HBR.out).range i hlt)
        have HAT := Lib.hid ((HE.out.below HBR.out).each _ (List.getElem_mem hlt))
        have HFT := Lib.hid (HF.out.2 _ (List.getElem_mem hlt))
        have HST := Lib.hid (HFS.out i hlt)
        have HLL := Lib.hid (HFL.out i hi)
        have HTK := Lib.hid (evs_take l i hlt)
        have HMEM : Hid ((l[i]).e ∈ evs l) := List.mem_map_of_mem (List.getElem_mem hlt)
        generalize l[i] = r at *
        generalize hd ++ [10] ++ flatT (((evs l).take i).map lineE) = acc at *
        have HAS : Hid (r.A.size = 103) := ER.size HAT.out
        have HLN := Lib.hid (rline_any r.e r.pb r.cb r.q r.c wr HAT.out (by have := HFT.out.1; omega) (by have := HFT.out.2; omega))
        have hra : evA r.e r.pb r.cb r.q r.c = r.A := rfl
        rw [hra] at HLN
        clear hra
        go_wp2_with ((with_reducible refine wpAt 62 ?_); refine loadM (by rfl) 37 _ rfl bl (ol + i * 103) rfl r.A _ HRG.out Tryd.underlying37 rfl (infoF _ HAS.out) ?_)
        refine HLN.out.mono ?_
        rintro x w6 ⟨rfl, hb6⟩
        have HB6 := Lib.hid (HBR.out.trans (hb6.mono HBR.out.size))
        clear hb6 HLN HRG
        by_cases hg : Good r.e
        rotate_left
        · have HP : Hid (printB c (evs l) = ([], 1)) := print_nl (fun h => hg (h _ HMEM.out))
          rw [decide_eq_false hg]
          clear hg
          go_wp2_with fail
          go_ret2
          unfold PrintP
          rw [HP.out]
          exact ⟨rfl, HB6.out⟩
        rw [decide_eq_true hg]
        have HG := Lib.hid hg
        have hle2 := lineE_le HAT.out.wf HFT.out.1 HFT.out.2
        have hll := HLL.out
        clear hg
        generalize lineE r.e = le at *
        have hx1 : ¬ (9223372036854775807 < acc.length + le.length) := by omega
        have hx2 : ¬ (9223372036854775807 < acc.length + le.length + 1) := by omega
        clear hle2 hll
        go_wp2_with fail
        go_roundw
        case rel => exact ⟨i + 1, by omega, by go_num, by rw [HST.out, ← List.append_assoc, ← S_app]; rfl, (fun e he => by
          rw [HTK.out, List.mem_append, List.mem_singleton] at he
          rcases he with he | rfl
          · exact HGP.out e he
          · exact HG.out), HB6.out⟩
        case measure => simp [intOf]; omega
      · have hd1 : decide ((i : Int) < (l.length : Int)) = false := decide_eq_false (by omega)
        have hd2 : decide (i < l.length) = false := decide_eq_false hlt
        obtain rfl : i = l.length := by omega
        have HGA : Hid (∀ e ∈ evs l, Good e) := fun e he => HGP.out e (by rw [List.take_of_length_le (by simp [evs])]; exact he)
        rw [← HTT.out]
        clear HTT HFS HFL
        obtain ⟨T, hT⟩ : ∃ T, textB c (evs l) = T := ⟨_, rfl⟩
        have HT := Lib.hid hT
        rw [hT]
        clear hT
        by_cases hlo : 20000 < T.length
        · have e1 : decide ((20000 : Int) < (T.length : Int)) = true := decide_eq_true (by omega)
          have e2 : decide (20000 < T.length) = true := decide_eq_true hlo
          have HP : Hid (printB c (evs l) = ([], 3)) := print_long HOKC.out HGA.out (by rw [HT.out]; exact hlo)
          clear hlo
          go_wp2_with fail
          go_ret2
          unfold PrintP
          rw [HP.out]
          exact ⟨rfl, HBR.out⟩
        · have e1 : decide ((20000 : Int) < (T.length : Int)) = false := decide_eq_false (by omega)
          have e2 : decide (20000 < T.length) = false := decide_eq_false hlo
          have HP : Hid (printB c (evs l) = (T, 0)) := by
            show _ = _
            rw [print_ok HOKC.out HGA.out (by rw [HT.out]; exact hlo), HT.out]
          clear hlo
          go_wp2_with fail
          go_ret2
          unfold PrintP
          rw [HP.out]
          exact ⟨rfl, HBR.out⟩
end Go.Proofs.YtcddgbobbogpgaaDoor.Scr

namespace Go.Proofs.YtcddgbobbogpgaaDoor.Scr
open Go.RowKit Go.Mir Go.Mir.Hx Go.Mir.Parts HexW Rpl

def id5 : List UInt8 := 5 :: List.replicate 31 0
def ev5 : Ev := ⟨4, [], zeros, zeros, [], id5, 0, 0, 0, 0⟩
def ev7 : Ev := ⟨5, [], zeros, zeros, [], zeros, 7, 0, 0, 0⟩
theorem i64_0 : i64B 0 := zero_i64
theorem ev5_wf : ev5.Wf := ⟨rfl, rfl, rfl, no_tx, small_i64 (show (0 : Int) ≤ 4 ∧ (4 : Int) ≤ 65535 by decide), i64_0, i64_0, i64_0, i64_0⟩
theorem ev7_wf : ev7.Wf := ⟨rfl, rfl, rfl, no_tx, small_i64 (show (0 : Int) ≤ 5 ∧ (5 : Int) ≤ 65535 by decide), small_i64 (show (0 : Int) ≤ 7 ∧ (7 : Int) ≤ 65535 by decide), i64_0, i64_0, i64_0⟩
theorem built_id5 : Tryd.prog.built 25 [(0, .int .u8 5)] = some (idA id5) := by kernel_rfl
theorem built_ev5 : Tryd.prog.built 31 [(0, .int .i64 4), (3, .agg (idA id5))] = some (evA ev5 none 0 none 0) := by kernel_rfl
theorem good5 : Good ev5 := ⟨⟨show (1 : Int) ≤ 4 by decide, show (4 : Int) ≤ 6 by decide⟩, rfl, fun h => by
  rcases h with h | h
  · exact absurd h (by show ¬ (4 : Int) = 5; decide)
  · exact absurd h (by show ¬ (4 : Int) = 6; decide)⟩
theorem good7 : Good ev7 := ⟨⟨show (1 : Int) ≤ 5 by decide, show (5 : Int) ≤ 6 by decide⟩, rfl, fun _ x hx => by
  have hx : x ∈ [(7 : Int)] := hx
  rw [List.mem_singleton] at hx
  rw [hx]
  exact (by decide : okN 7)⟩
theorem line5 : lineE ev5 = [101, 118, 105, 99, 116, 32, 48, 53] := by
  rw [(line_good good5).1]
  kernel_rfl
theorem line7 : lineE ev7 = [97, 114, 109, 32, 55] := by
  rw [(line_good good7).1]
  kernel_rfl
theorem read7 : readE [97, 114, 109, 32, 55] = some ev7 := by
  rw [← line7]
  exact read_line good7 ev7_wf
set_option maxRecDepth 100000 in
set_option maxHeartbeats 1600000 in
theorem alive39_any (w : World) (hm : MaxL w) : Calls Tryd.prog 6 #[] w fun e w' => e = .returned (.bool true) ∧ Below w.heap.size w w' := by
  have hz := zeroE
  have HL := Lib.hid (line_any ev5 none 0 none 0 w ⟨ev5_wf, Sl.nil _ _, Is.nil _ _⟩ (by decide) (by decide))
  have HM := Lib.hid hm
  have hb5 : (S [101, 118, 105, 99, 116, 32, 48, 53] == (⟨#[101, 118, 105, 99, 116, 32, 48, 53]⟩ : ByteArray)) = true := by kernel_rfl
  clear hm
  go_enter Tryd.func6, Tryd.ntmps6
  go_wp2_with (first
    | refine Rdr.wpList_build rfl 25 _ rfl [(0, .int .u8 5)] rfl _ built_id5 ?_
    | refine Rdr.wpList_build rfl 31 _ rfl [(0, .int .i64 4), (3, .agg (idA id5))] rfl _ built_ev5 ?_)
  refine HL.out.mono ?_
  rintro e w1 ⟨rfl, hb1⟩
  rw [line5, decide_eq_true good5]
  have HB1 := Lib.hid hb1
  have hrd := read_any [97, 114, 109, 32, 55] w1 (by decide) (HM.out.below hb1)
  rw [read7] at hrd
  have HRD := Lib.hid hrd
  clear hrd hb1 HL
  go_wp2_with fail
  refine HRD.out.mono ?_
  rintro e w2 ⟨pb, cb, q, c, rfl, hat, hb2⟩
  have HB2 := Lib.hid (HB1.out.trans (hb2.mono HB1.out.size))
  obtain ⟨A, hA⟩ : ∃ A, A = evA ev7 pb cb q c := ⟨_, rfl⟩
  have HAS : Hid (A.size = 103) := by show _ = _; rw [hA]; exact evA_size ev7_wf pb cb q c
  have HAO : Hid (A.all (·.oneCell') = true) := by show _ = _; rw [hA]; exact evA_one _ _ _ _ _
  have hr2 := setRow_heap _ _ _ A _ _ (heap_alloc_last w2 (.cells zE 31))
  have HC := Lib.hid (ev_row (pb := pb) (cb := cb) (q := q) (c := c) ev7_wf (by rw [hA] at hr2; exact hr2))
  rw [← hA] at HC
  have hck : (((w2.alloc (.cells zE 31)).setRow w2.heap.size A).cell? ⟨w2.heap.size, 0, none⟩) = some (.int .i64 5) := HC.out.k
  have hcn : (((w2.alloc (.cells zE 31)).setRow w2.heap.size A).cell? ⟨w2.heap.size, 99, none⟩) = some (.int .i64 7) := HC.out.n
  have hbx := box_below w2 zE A 31
  have HB3 := Lib.hid (HB2.out.trans (hbx.mono HB2.out.size))
  show _
  simp only [Option.getD_some, Option.isSome_some]
  rw [← hA]
  clear hb2 hat hr2 HRD hbx hA
  go_wp2_with (refine wpList_store_row rfl 31 _ _ rfl w2.heap.size A rfl rfl 31 zE (heap_alloc_last _ _) (infoE _ HAS.out) (by rw [HAS.out]; exact zE_size) HAO.out ?_)
  go_ret
  exact ⟨rfl, HB3.out⟩
end Go.Proofs.YtcddgbobbogpgaaDoor.Scr

namespace Go.Proofs.YtcddgbobbogpgaaDoor.Scr
open Go.RowKit Go.Mir Go.Mir.Hx Go.Mir.Parts HexW Rpl

theorem cf_eq {c d : Cf} (h : c = d) : (c.d == d.d) = true ∧ (c.s == d.s) = true ∧ (c.k == d.k) = true ∧ (c.e == d.e) = true ∧ (c.a == d.a) = true ∧ (c.o == d.o) = true := by subst h; simp
theorem ok_i64 {x : Int} (h : okC x) : i64B x := by unfold i64B; unfold okC at h; omega
/-- a new box that a struct was copied into -/
theorem cf_box (w : World) (c : Cf) : Below w.heap.size w ((w.alloc (.cells (cfA Cf.zero) 46)).setRow w.heap.size (cfA c)) ∧ ((w.alloc (.cells (cfA Cf.zero) 46)).setRow w.heap.size (cfA c)).heap[w.heap.size]? = some (.cells (cfA c) 46 (0, 0)) :=
  ⟨below_setRow (Below.allocs _ _) (Nat.le_refl _) _, setRow_heap _ _ _ (cfA c) _ _ (heap_alloc_last w _)⟩
set_option maxRecDepth 100000 in
set_option maxHeartbeats 3200000 in
theorem law_sreads (s : List UInt8) (w : World) (hm : MaxL w) (hs : s.length ≤ 9223372036854775807) :
    Calls Tryd.prog 5 #[.string (S s)] w fun x w' => x = .returned (.bool true) ∧ Below w.heap.size w w' := by
  have hzc := zeroCf
  have HM := Lib.hid hm
  clear hm
  by_cases b1 : 21000 < s.length
  · have d1 : decide ((21000 : Int) < (s.length : Int)) = true := decide_eq_true (by omega)
    have d1' : decide (21000 < s.length) = true := decide_eq_true b1
    have HBX := Lib.hid (Below.refl w.heap.size w)
    clear b1
    go_enter Tryd.func5, Tryd.ntmps5
    go_wp2_with fail
    skip
    refine (alive39_any _ (HM.out.below HBX.out)).mono ?_
    rintro x wz ⟨rfl, hb⟩
    go_wp2_with fail
    go_ret
    exact ⟨rfl, HBX.out.trans (hb.mono HBX.out.size)⟩
  have d1 : decide ((21000 : Int) < (s.length : Int)) = false := decide_eq_false (by omega)
  have d1' : decide (21000 < s.length) = false := decide_eq_false b1
  have HS : Hid (s.length ≤ 900000) := by show _ ≤ _; omega
  have HPA := Lib.hid (parse_any s w HS.out HM.out)
  clear b1 hs
  go_enter Tryd.func5, Tryd.ntmps5
  go_wp2_with fail
  refine HPA.out.mono ?_
  rintro x w1 ⟨p1, c1, l1, hev1, rfl, hes1, hb1⟩
  obtain ⟨C, hC⟩ : ∃ C, (parseB s).1 = C := ⟨_, rfl⟩
  obtain ⟨L, hL⟩ : ∃ L, (parseB s).2.1 = L := ⟨_, rfl⟩
  obtain ⟨N, hN⟩ : ∃ N, (parseB s).2.2.1 = N := ⟨_, rfl⟩
  obtain ⟨E, hE⟩ : ∃ E, (parseB s).2.2.2 = E := ⟨_, rfl⟩
  have HRA := Lib.hid (fun w' => rparse_any s w' HS.out)
  unfold ParseP at HRA
  rw [hL] at hev1
  rw [hC, hL, hN, hE] at HRA
  rw [hC, hN, hE]
  have HPF := Lib.hid (parse_facts s)
  have HFT := Lib.hid (parsed_fit s)
  have HAG := Lib.hid (print_again s)
  rw [hC, hL, hN, hE] at HPF
  rw [hL] at HFT
  rw [hC, hL, hE] at HAG
  obtain ⟨k1, k2⟩ := cf_box w1 C
  have HES1 := Lib.hid (hes1.below k1)
  have HBX := Lib.hid (hb1.trans (k1.mono hb1.size))
  have HC3 := Lib.hid k2
  have HEV1 := Lib.hid hev1
  clear hev1 hes1 hb1 k1 k2 hC hL hN hE HPA
  go_upto_region 4 with (refine wpList_store_row rfl 46 _ _ rfl w1.heap.size (cfA C) rfl rfl 46 (cfA Cf.zero) (heap_alloc_last _ _) (infoCf _ rfl) rfl (cfA_one _) ?_)
  generalize (w1.alloc (.cells (cfA Cf.zero) 46)).setRow w1.heap.size (cfA C) = w2 at *
  generalize w1.heap.size = g3 at *
  go_wp2_with fail
  refine (HRA.out w2).mono ?_
  rintro x w3 ⟨p2, c2, l2, hev2, rfl, hes2, hb2⟩
  obtain ⟨k1, k2⟩ := cf_box w3 C
  have HES2 := Lib.hid (hes2.below k1)
  have HES1' := Lib.hid ((HES1.out.below hb2).below k1)
  have HBX' := Lib.hid ((HBX.out.trans (hb2.mono HBX.out.size)).trans (k1.mono (Nat.le_trans HBX.out.size hb2.size)))
  have HC3' := Lib.hid (Below.keepOld k1 (Below.keepOld hb2 HC3.out))
  have HC7 := Lib.hid k2
  have HEV2 := Lib.hid hev2
  clear hev2 hes2 hb2 k1 k2 HRA HES1 HBX HC3
  go_upto_region 5 with (refine wpList_store_row rfl 46 _ _ rfl w3.heap.size (cfA C) rfl rfl 46 (cfA Cf.zero) (heap_alloc_last _ _) (infoCf _ rfl) rfl (cfA_one _) ?_)
  generalize (w3.alloc (.cells (cfA Cf.zero) 46)).setRow w3.heap.size (cfA C) = w4 at *
  generalize w3.heap.size = g7 at *
  have HPL := Lib.hid (plains_any p1 l1.length c1 l1 w4 HES1'.out (by
    have h1 := congrArg List.length HEV1.out
    have h2 : l1.length = L.length := by simpa [evs] using h1
    rcases HPF.out with h | ⟨_, _, h⟩
    · have := h.2.2.2.2.2.1; omega
    · rw [h] at h2; rw [h2]; exact Nat.zero_le _))
  go_wp2_with (first
    | ((with_reducible refine wpAt 35 ?_); refine wpList_load_row rfl 46 _ rfl g3 rfl 46 #[.int .i64 C.d, .int .i64 C.s, .int .i64 C.k, .int .i64 C.e, .int .i64 C.a, .int .i64 C.o] (0, 0) _ HC3'.out Tryd.underlying46 rfl (infoCf _ rfl) ?_)
    | ((with_reducible refine wpAt 36 ?_); refine wpList_load_row rfl 46 _ rfl g7 rfl 46 #[.int .i64 C.d, .int .i64 C.s, .int .i64 C.k, .int .i64 C.e, .int .i64 C.a, .int .i64 C.o] (0, 0) _ HC7.out Tryd.underlying46 rfl (infoCf _ rfl) ?_))
  refine HPL.out.mono ?_
  rintro x y1 ⟨p3, c3, rfl, hes3, hb3⟩
  have HAL := Lib.hid (all_any p3 p2 l1.length l2.length c3 c2 l1 l2 y1 hes3 (HES2.out.below hb3))
  rw [decide_eq_true (HEV1.out.trans HEV2.out.symm)] at HAL
  have HC3 := Lib.hid (Below.keepOld hb3 HC3'.out)
  have HES1 := Lib.hid (HES1'.out.below hb3)
  have HBX := Lib.hid (HBX'.out.trans (hb3.mono HBX'.out.size))
  clear hes3 hb3 HPL HC3' HES1' HBX' HES2 HC7
  go_wp2_with fail
  refine HAL.out.mono ?_
  rintro x y2 ⟨rfl, hb4⟩
  have HC3' := Lib.hid (Below.keepOld hb4 HC3.out)
  have HES1' := Lib.hid (HES1.out.below hb4)
  have HBX' := Lib.hid (HBX.out.trans (hb4.mono HBX.out.size))
  clear hb4 HAL HC3 HES1 HBX
  by_cases hE : E = 0
  rotate_left
  · have q1 : (E == 0) = false := beq_eq_false_iff_ne.2 hE
    have q2 : (E != 0) = true := bne_iff_ne.2 hE
    have HZ : Hid (C = Cf.zero ∧ l1.length = 0) := by
      rcases HPF.out with h | ⟨_, h1, h2⟩
      · exact absurd h.1 hE
      · refine ⟨h1, ?_⟩
        have := congrArg List.length (HEV1.out.trans h2)
        simpa [evs] using this
    have hl0 := HZ.out.2
    have hl1 : ((l1.length : Int) == 0) = true := beq_iff_eq.2 (by omega)
    obtain rfl := HZ.out.1
    have HBX := HBX'
    clear hE hl0
    go_wp2_with (first
      | refine wpList_unguard rfl (wpList_load_row rfl 46 _ rfl g3 rfl 46 #[.int .i64 0, .int .i64 0, .int .i64 0, .int .i64 0, .int .i64 0, .int .i64 0] (0, 0) _ HC3'.out Tryd.underlying46 rfl (infoCf _ rfl) ?_)
      | refine wpList_unguard rfl (Rdr.wpList_build rfl 46 _ rfl [] rfl #[.int .i64 0, .int .i64 0, .int .i64 0, .int .i64 0, .int .i64 0, .int .i64 0] (by kernel_rfl) ?_))
    skip
    refine (alive39_any _ (HM.out.below HBX.out)).mono ?_
    rintro x wz ⟨rfl, hb⟩
    go_wp2_with fail
    go_ret
    exact ⟨rfl, HBX.out.trans (hb.mono HBX.out.size)⟩
  have q1 : (E == 0) = true := beq_iff_eq.2 hE
  have q2 : (E != 0) = false := by rw [bne_eq_false_iff_eq]; exact hE
  have hpf := HPF.out.resolve_right (fun h => h.1 hE)
  have hag := HAG.out hE
  have HLN : Hid (l1.length ≤ 21001) := by
    have h1 := congrArg List.length HEV1.out
    have h2 : l1.length = L.length := by simpa [evs] using h1
    show _ ≤ _
    have := hpf.2.2.2.2.2.1
    omega
  have hfit : Fit l1 := ⟨HLN.out, fun r hr => HFT.out r.e (by rw [← HEV1.out]; exact List.mem_map.2 ⟨r, hr, rfl⟩)⟩
  have HPR := Lib.hid (print_any C p1 l1.length c1 l1 y2 HES1'.out hfit (fun x hx => ok_i64 (hpf.2.2.1 x hx)))
  unfold PrintP at HPR
  rw [HEV1.out] at HPR
  obtain ⟨T, hT⟩ : ∃ T, (printB C L).1 = T := ⟨_, rfl⟩
  obtain ⟨G, hG⟩ : ∃ G, (printB C L).2 = G := ⟨_, rfl⟩
  rw [hT, hG] at HPR hag
  have HTL : Hid (T.length ≤ 900000) := by
    show _ ≤ _
    rw [← hT]
    rcases print_vals C L with ⟨h1, h2⟩ | ⟨h1, h2⟩
    · rw [h2]
      have := hpf.2.2.2.2.1
      have := HS.out
      omega
    · rw [h2]; simp
  clear hE hpf hfit hT hG HAG HFT HPF
  go_wp2_with (refine wpList_load_row rfl 46 _ rfl g3 rfl 46 (cfA C) (0, 0) _ HC3'.out Tryd.underlying46 rfl (infoCf _ rfl) ?_)
  refine HPR.out.mono ?_
  rintro x y3 ⟨rfl, hb5⟩
  have HC3 := Lib.hid (Below.keepOld hb5 HC3'.out)
  have HES1 := Lib.hid (HES1'.out.below hb5)
  have HBX := Lib.hid (HBX'.out.trans (hb5.mono HBX'.out.size))
  clear hb5 HPR HC3' HES1' HBX'
  rcases hag with ⟨rfl, hpa⟩ | ⟨rfl, hls⟩
  rotate_left
  · have hd1 : decide ((19000 : Int) < (s.length : Int)) = true := decide_eq_true (by omega)
    have hd2 : decide (19000 < s.length) = true := decide_eq_true hls
    clear hls
    go_wp2_with fail
    skip
    refine (alive39_any _ (HM.out.below HBX.out)).mono ?_
    rintro x wz ⟨rfl, hb⟩
    go_wp2_with fail
    go_ret
    exact ⟨rfl, HBX.out.trans (hb.mono HBX.out.size)⟩
  have HPA := Lib.hid (parse_any T y3 HTL.out (HM.out.below HBX.out))
  unfold ParseP at HPA
  rw [hpa] at HPA
  clear hpa
  go_wp2_with fail
  refine HPA.out.mono ?_
  rintro x w5 ⟨p4, c4, l4, hev4, rfl, hes4, hb6⟩
  obtain ⟨k1, k2⟩ := cf_box w5 C
  have HES4 := Lib.hid (hes4.below k1)
  have HES1' := Lib.hid ((HES1.out.below hb6).below k1)
  have HBX' := Lib.hid ((HBX.out.trans (hb6.mono HBX.out.size)).trans (k1.mono (Nat.le_trans HBX.out.size hb6.size)))
  have HC3' := Lib.hid (Below.keepOld k1 (Below.keepOld hb6 HC3.out))
  have HCD := Lib.hid k2
  have HEV4 : Hid (evs l4 = L) := hev4
  have HLN4 : Hid (l4.length ≤ 21001) := by
    have h1 := congrArg List.length (hev4.trans HEV1.out.symm)
    have h2 : l4.length = l1.length := by simpa [evs] using h1
    show _ ≤ _
    have := HLN.out
    omega
  clear hev4 hes4 hb6 k1 k2 HPA HES1 HBX HC3
  go_upto_region 13 with (refine wpList_store_row rfl 46 _ _ rfl w5.heap.size (cfA C) rfl rfl 46 (cfA Cf.zero) (heap_alloc_last _ _) (infoCf _ rfl) rfl (cfA_one _) ?_)
  generalize (w5.alloc (.cells (cfA Cf.zero) 46)).setRow w5.heap.size (cfA C) = w6 at *
  generalize w5.heap.size = gd at *
  have HPL := Lib.hid (plains_any p4 l4.length c4 l4 w6 HES4.out HLN4.out)
  go_wp2_with (first
    | ((with_reducible refine wpAt 96 ?_); refine wpList_unguard rfl (wpList_load_row rfl 46 _ rfl gd rfl 46 #[.int .i64 C.d, .int .i64 C.s, .int .i64 C.k, .int .i64 C.e, .int .i64 C.a, .int .i64 C.o] (0, 0) _ HCD.out Tryd.underlying46 rfl (infoCf _ rfl) ?_))
    | ((with_reducible refine wpAt 97 ?_); refine wpList_unguard rfl (wpList_load_row rfl 46 _ rfl g3 rfl 46 #[.int .i64 C.d, .int .i64 C.s, .int .i64 C.k, .int .i64 C.e, .int .i64 C.a, .int .i64 C.o] (0, 0) _ HC3'.out Tryd.underlying46 rfl (infoCf _ rfl) ?_)))
  refine HPL.out.mono ?_
  rintro x y1 ⟨p5, c5, rfl, hes5, hb3⟩
  have HES1 := Lib.hid (HES1'.out.below hb3)
  have HES5 := Lib.hid hes5
  have HBX := Lib.hid (HBX'.out.trans (hb3.mono HBX'.out.size))
  clear hes5 hb3 HPL HC3' HES1' HBX' HCD HES4
  have HPL := Lib.hid (plains_any p1 l1.length c1 l1 y1 HES1.out HLN.out)
  go_wp2_with fail
  refine HPL.out.mono ?_
  rintro x y2 ⟨p6, c6, rfl, hes6, hb3⟩
  have HAL := Lib.hid (all_any p5 p6 l4.length l1.length c5 c6 l4 l1 y2 (HES5.out.below hb3) hes6)
  rw [decide_eq_true (HEV4.out.trans HEV1.out.symm)] at HAL
  have HBX' := Lib.hid (HBX.out.trans (hb3.mono HBX.out.size))
  clear hes6 hb3 HPL HES5 HES1 HBX
  go_wp2_with fail
  refine HAL.out.mono ?_
  rintro x y3 ⟨rfl, hb4⟩
  have HBX := Lib.hid (HBX'.out.trans (hb4.mono HBX'.out.size))
  clear hb4 HAL HBX'
  go_wp2_with fail
  skip
  refine (alive39_any _ (HM.out.below HBX.out)).mono ?_
  rintro x wz ⟨rfl, hb⟩
  go_wp2_with fail
  go_ret
  exact ⟨rfl, HBX.out.trans (hb.mono HBX.out.size)⟩
end Go.Proofs.YtcddgbobbogpgaaDoor.Scr

namespace Go.Proofs.YtcddgbobbogpgaaDoor.Scr
open Go.RowKit Go.Mir Go.Mir.Hx Go.Mir.Parts HexW Rpl

theorem cap_le {p : Option Addr} {n c size : Nat} {vs : List Value} {w : World} (h : Sl w p n c size vs) : n ≤ c := h.le
set_option maxRecDepth 100000 in
set_option maxHeartbeats 3200000 in
theorem law_stexts (c : Cf) (p : Option Addr) (n cc : Nat) (l : List ER) (w : World) (hm : MaxL w) (hE : Es w p n cc l) (hc : ∀ x ∈ c.l, i64B x) :
    Calls Tryd.prog 4 #[.agg (cfA c), .slice p n cc] w fun x w' => x = .returned (.bool true) ∧ Below w.heap.size w w' := by
  have hzc := zeroCf
  have hz := zeroE
  have hal := Below.allocs w (.cells (cfA c) 46)
  have HM := Lib.hid hm
  have HE := Lib.hid (hE.below hal)
  have HB := Lib.hid hal
  have HC := Lib.hid (heap_alloc_last w (.cells (cfA c) 46))
  have HCI := Lib.hid hc
  obtain rfl : l.length = n := hE.count
  have hle := hE.sl.le
  have hmx := hE.sl.max
  clear hE hal hm hc
  by_cases b1 : 60 < l.length
  · have d1 : decide ((60 : Int) < (l.length : Int)) = true := decide_eq_true (by omega)
    have d1' : decide (60 < l.length) = true := decide_eq_true b1
    have HBX := HB
    go_enter Tryd.func4, Tryd.ntmps4
    go_wp2_with fail
    skip
    refine (alive39_any _ (HM.out.below HBX.out)).mono ?_
    rintro x wz ⟨rfl, hb⟩
    go_wp2_with fail
    go_ret
    exact ⟨rfl, HBX.out.trans (hb.mono HBX.out.size)⟩
  have d1 : decide ((60 : Int) < (l.length : Int)) = false := decide_eq_false (by omega)
  have d1' : decide (60 < l.length) = false := decide_eq_false b1
  have HLL : Hid (l.length ≤ 60) := by show _ ≤ _; omega
  clear b1
  go_enter Tryd.func4, Tryd.ntmps4
  go_wp2_with fail
  generalize w.alloc (.cells (cfA c) 46) = w1 at *
  clear d1 d1'
  go_loopw [6, 21] (fun _ j wr => ∃ i : Nat, i ≤ l.length ∧ j = .int .i64 i ∧ (∀ r ∈ l.take i, r.e.b.length ≤ 3000 ∧ r.e.tx.length ≤ 60) ∧ Below w1.heap.size w1 wr) (fun _ j _ => l.length - (intOf j).toNat)
  case atStart => exact ⟨0, Nat.zero_le _, rfl, (fun r hr => by simp at hr), Below.refl _ _⟩
  case round =>
    obtain ⟨i, hi, rfl, hsm, hb⟩ := hrel
    have HSM := Lib.hid hsm
    have HBR := Lib.hid hb
    clear hsm hb
    by_cases hlt : i < l.length
    · have hd1 : decide ((i : Int) < (l.length : Int)) = true := decide_eq_true (by omega)
      have hd2 : decide (i < l.length) = true := decide_eq_true hlt
      have hi1 : (i : Int) < (l.length : Int) := by omega
      obtain ⟨bl, ol, rfl⟩ := HE.out.sl.addr (by omega) (by omega)
      have HRG := Lib.hid ((HE.out.below HBR.out).range i hlt)
      have HAT := Lib.hid ((HE.out.below HBR.out).each _ (List.getElem_mem hlt))
      have HTK : Hid (l.take (i + 1) = l.take i ++ [l[i]]) := List.take_succ_eq_append_getElem hlt
      generalize l[i] = r at *
      have HAS : Hid (r.A.size = 103) := ER.size HAT.out
      have HAO := Lib.hid (ER.one r)
      have hbx := box_below wr zE r.A 31
      have hrx := box_row wr zE r.A 31
      have HX := ev_row (pb := r.pb) (cb := r.cb) (q := r.q) (c := r.c) HAT.out.wf hrx
      have hkb := HX.b
      have hkt := HX.tx
      have hcb := HAT.out.bs.le
      have hct := HAT.out.ids.sl.le
      have hmb := HAT.out.bs.max
      have hmt := HAT.out.ids.sl.max
      have HB2 := Lib.hid (HBR.out.trans (hbx.mono HBR.out.size))
      clear hbx hrx HX
      go_upto_region 6 with (first
        | ((with_reducible refine wpAt 24 ?_); refine loadM (by rfl) 31 _ rfl bl (ol + i * 103) rfl r.A _ HRG.out Tryd.underlying31 rfl (infoE _ HAS.out) ?_)
        | refine wpList_store_row rfl 31 _ _ rfl wr.heap.size r.A rfl rfl 31 zE (heap_alloc_last _ _) (infoE _ HAS.out) (by rw [HAS.out]; exact zE_size) HAO.out ?_)
      generalize (wr.alloc (.cells zE 31)).setRow wr.heap.size r.A = w5 at *
      generalize wr.heap.size = gx at *
      by_cases b1 : 3000 < r.e.b.length
      · have e1 : decide ((3000 : Int) < (r.e.b.length : Int)) = true := decide_eq_true (by omega)
        have e1' : decide (3000 < r.e.b.length) = true := decide_eq_true b1
        have HBX := Lib.hid (HB.out.trans (HB2.out.mono HB.out.size))
        clear b1
        go_wp2_with fail
        skip
        refine (alive39_any _ (HM.out.below HBX.out)).mono ?_
        rintro x wz ⟨rfl, hb⟩
        go_wp2_with fail
        go_ret
        exact ⟨rfl, HBX.out.trans (hb.mono HBX.out.size)⟩
      have e1 : decide ((3000 : Int) < (r.e.b.length : Int)) = false := decide_eq_false (by omega)
      have e1' : decide (3000 < r.e.b.length) = false := decide_eq_false b1
      by_cases b2 : 60 < r.e.tx.length
      · have e2 : decide ((60 : Int) < (r.e.tx.length : Int)) = true := decide_eq_true (by omega)
        have e2' : decide (60 < r.e.tx.length) = true := decide_eq_true b2
        have HBX := Lib.hid (HB.out.trans (HB2.out.mono HB.out.size))
        clear b1 b2
        go_wp2_with fail
        skip
        refine (alive39_any _ (HM.out.below HBX.out)).mono ?_
        rintro x wz ⟨rfl, hb⟩
        go_wp2_with fail
        go_ret
        exact ⟨rfl, HBX.out.trans (hb.mono HBX.out.size)⟩
      have e2 : decide ((60 : Int) < (r.e.tx.length : Int)) = false := decide_eq_false (by omega)
      have e2' : decide (60 < r.e.tx.length) = false := decide_eq_false b2
      have HSM2 : Hid (∀ x ∈ l.take (i + 1), x.e.b.length ≤ 3000 ∧ x.e.tx.length ≤ 60) := fun x hx => by
        rw [HTK.out, List.mem_append, List.mem_singleton] at hx
        rcases hx with hx | rfl
        · exact HSM.out x hx
        · exact ⟨by omega, by omega⟩
      clear b1 b2
      go_wp2_with fail
      go_roundw
      case rel => exact ⟨i + 1, by omega, by go_num, HSM2.out, HB2.out⟩
      case measure => simp [intOf]; omega
    · have hd1 : decide ((i : Int) < (l.length : Int)) = false := decide_eq_false (by omega)
      have hd2 : decide (i < l.length) = false := decide_eq_false hlt
      have hall : ∀ r ∈ l, r.e.b.length ≤ 3000 ∧ r.e.tx.length ≤ 60 := fun r hr => HSM.out r (by rw [List.take_of_length_le (by omega)]; exact hr)
      have HFIT : Hid (Fit l) := ⟨by have := HLL.out; omega, fun r hr => by have := hall r hr; omega⟩
      have HWF : Hid (∀ e ∈ evs l, e.Wf) := fun e he => by
        obtain ⟨r, hr, rfl⟩ := List.mem_map.1 he
        exact (HE.out.each r hr).wf
      have HE2 := Lib.hid (HE.out.below HBR.out)
      have HC2 := Lib.hid (Below.keepOld HBR.out HC.out)
      have HBX := Lib.hid (HB.out.trans (HBR.out.mono HB.out.size))
      clear hall HSM HE HC HB HBR hlt
      have HPR := Lib.hid (print_any c p l.length cc l wr HE2.out HFIT.out HCI.out)
      unfold PrintP at HPR
      obtain ⟨T, hT⟩ : ∃ T, (printB c (evs l)).1 = T := ⟨_, rfl⟩
      obtain ⟨G, hG⟩ : ∃ G, (printB c (evs l)).2 = G := ⟨_, rfl⟩
      have HRP := Lib.hid (fun p' cc' (w' : World) (h : Es w' p' l.length cc' l) => rprint_any c p' l.length cc' l w' h HFIT.out)
      unfold PrintP at HRP
      have hpv := print_vals c (evs l)
      have hpp := print_parse (c := c) (l := evs l) HWF.out
      rw [hT, hG] at HPR HRP hpv hpp
      have HTL : Hid (G = 0 → T.length ≤ 900000) := fun h => by
        rcases hpv with ⟨h1, h2⟩ | ⟨h1, h2⟩
        · have h3 := hG
          unfold printB at h3
          rw [h] at h3
          split at h3
          · split at h3
            · split at h3
              · rename_i h4; rw [h2]; omega
              · cases h3
            · cases h3
          · cases h3
        · exact absurd h h1
      have HPP := Lib.hid hpp
      have HPV := Lib.hid hpv
      clear hT hG hpp hpv
      go_wp2_with ((with_reducible refine wpAt 39 ?_); refine wpList_load_row rfl 46 _ rfl w.heap.size rfl 46 (cfA c) (0, 0) _ HC2.out Tryd.underlying46 rfl (infoCf _ rfl) ?_)
      refine HPR.out.mono ?_
      rintro x w3 ⟨rfl, hb3⟩
      have HE3 := Lib.hid (HE2.out.below hb3)
      have HC3 := Lib.hid (Below.keepOld hb3 HC2.out)
      have HBX3 := Lib.hid (HBX.out.trans (hb3.mono HBX.out.size))
      clear hb3 HPR HE2 HC2 HBX
      have HRG := Lib.hid (fun w' (hb : Below w3.heap.size w3 w') => row_rangeS (Below.keepOld hb HC3.out))
      have HPL := Lib.hid (fun (y : World) (hy : Below w3.heap.size w3 y) => plains_any p l.length cc l y (HE3.out.below hy) (by have := HLL.out; omega))
      go_upto_region 10 with fail
      refine wp_region_eager [(0, true), (1, true), (2, false), (3, false), (4, true), (5, true), (6, true), (7, true), (8, true)] (by kernel_rfl) (by kernel_rfl) (eagerOpen rfl ?_)
      have hy0 : Below w3.heap.size w3 w3.drew := below_drew1 _ _
      repeat (first
        | ((with_reducible refine eagerLoadAt 2 ?_); refine wpEager_load (by rfl) 46 _ rfl w.heap.size 0 rfl (cfA c) _ (fun w' hb => HRG.out w' hb) Tryd.underlying46 rfl (infoCf _ rfl) ?_; (try simp only [Act.put, List.setIfInBounds_toArray, List.set_cons_zero, List.set_cons_succ]); (try refine eagerOpen rfl ?_))
        | (first | (apply wpEager_take; (· rfl); (· (intro w' hb'; go_simp; try with_reducible rfl)); (try simp only [Act.put, List.setIfInBounds_toArray, List.set_cons_zero, List.set_cons_succ]); (try refine eagerOpen rfl ?_)) | (refine wpEager_skip (by rfl) ?_; (try simp only [Act.put, List.setIfInBounds_toArray, List.set_cons_zero, List.set_cons_succ]); (try refine eagerOpen rfl ?_)) | (refine wpEager_off (by rfl) ?_; (try simp only [Act.put, List.setIfInBounds_toArray, List.set_cons_zero, List.set_cons_succ]); (try refine eagerOpen rfl ?_))))
      (refine wpEager_op (by rfl) (fun K hK => ?_); go_simp; (refine (HPL.out _ hy0).mono ?_; rintro x y1 ⟨p1, c1, rfl, hes, hb⟩; have hy1 := hy0.trans hb; clear hb); refine Shut.out hK _ _ (by assumption) ?_; clear hK K; (try simp only [Act.put, List.setIfInBounds_toArray, List.set_cons_zero, List.set_cons_succ]); (try refine eagerOpen rfl ?_))
      repeat (first | (apply wpEager_take; (· rfl); (· (intro w' hb'; go_simp; try with_reducible rfl)); (try simp only [Act.put, List.setIfInBounds_toArray, List.set_cons_zero, List.set_cons_succ]); (try refine eagerOpen rfl ?_)) | (refine wpEager_skip (by rfl) ?_; (try simp only [Act.put, List.setIfInBounds_toArray, List.set_cons_zero, List.set_cons_succ]); (try refine eagerOpen rfl ?_)) | (refine wpEager_off (by rfl) ?_; (try simp only [Act.put, List.setIfInBounds_toArray, List.set_cons_zero, List.set_cons_succ]); (try refine eagerOpen rfl ?_)))
      (refine wpEager_op (by rfl) (fun K hK => ?_); go_simp; (refine (HRP.out _ _ _ hes).mono ?_; rintro x y2 ⟨rfl, hb⟩; have hy2 := hy1.trans (hb.mono hy1.size); clear hb); refine Shut.out hK _ _ (by assumption) ?_; clear hK K; (try simp only [Act.put, List.setIfInBounds_toArray, List.set_cons_zero, List.set_cons_succ]); (try refine eagerOpen rfl ?_))
      repeat (first | (apply wpEager_take; (· rfl); (· (intro w' hb'; go_simp; try with_reducible rfl)); (try simp only [Act.put, List.setIfInBounds_toArray, List.set_cons_zero, List.set_cons_succ]); (try refine eagerOpen rfl ?_)) | (refine wpEager_skip (by rfl) ?_; (try simp only [Act.put, List.setIfInBounds_toArray, List.set_cons_zero, List.set_cons_succ]); (try refine eagerOpen rfl ?_)) | (refine wpEager_off (by rfl) ?_; (try simp only [Act.put, List.setIfInBounds_toArray, List.set_cons_zero, List.set_cons_succ]); (try refine eagerOpen rfl ?_)))
      refine eagerEnd ?_
      have HE4 := Lib.hid (HE3.out.below hy2)
      have HC4 := Lib.hid (Below.keepOld hy2 HC3.out)
      have HBX := Lib.hid (HBX3.out.trans (hy2.mono HBX3.out.size))
      clear hy0 hy1 hy2 hes HPL HRP HRG HE3 HC3 HBX3
      by_cases hG : G = 0
      rotate_left
      · have q1 : (G == 0) = false := beq_eq_false_iff_ne.2 hG
        have q2 : (G != 0) = true := bne_iff_ne.2 hG
        obtain rfl : T = [] := (HPV.out.resolve_left (fun h => hG h.1)).2
        clear hG
        go_wp2_with fail
        skip
        refine (alive39_any _ (HM.out.below HBX.out)).mono ?_
        rintro x wz ⟨rfl, hb⟩
        go_wp2_with fail
        go_ret
        exact ⟨rfl, HBX.out.trans (hb.mono HBX.out.size)⟩
      have q1 : (G == 0) = true := beq_iff_eq.2 hG
      have q2 : (G != 0) = false := by rw [bne_eq_false_iff_eq]; exact hG
      have hpa := HPP.out hG
      have HPA := Lib.hid (parse_any T y2 (HTL.out hG) (HM.out.below HBX.out))
      unfold ParseP at HPA
      rw [hpa] at HPA
      clear hpa hG HPP HPV HTL
      go_wp2_with fail
      refine HPA.out.mono ?_
      rintro x w5 ⟨p4, c4, l4, hev4, rfl, hes4, hb6⟩
      obtain ⟨k1, k2⟩ := cf_box w5 c
      have HES4 := Lib.hid (hes4.below k1)
      have HE5 := Lib.hid ((HE4.out.below hb6).below k1)
      have HBX' := Lib.hid ((HBX.out.trans (hb6.mono HBX.out.size)).trans (k1.mono (Nat.le_trans HBX.out.size hb6.size)))
      have HC5 := Lib.hid (Below.keepOld k1 (Below.keepOld hb6 HC4.out))
      have HCD := Lib.hid k2
      have HEV4 : Hid (evs l4 = evs l) := hev4
      have HLN4 : Hid (l4.length ≤ 21001) := by
        have h1 := congrArg List.length hev4
        have h2 : l4.length = l.length := by simpa [evs] using h1
        show _ ≤ _
        have := HLL.out
        omega
      clear hev4 hes4 hb6 k1 k2 HPA HE4 HBX HC4
      go_upto_region 16 with (refine wpList_store_row rfl 46 _ _ rfl w5.heap.size (cfA c) rfl rfl 46 (cfA Cf.zero) (heap_alloc_last _ _) (infoCf _ rfl) rfl (cfA_one _) ?_)
      generalize (w5.alloc (.cells (cfA Cf.zero) 46)).setRow w5.heap.size (cfA c) = w6 at *
      generalize w5.heap.size = gd at *
      have HPL := Lib.hid (plains_any p4 l4.length c4 l4 w6 HES4.out HLN4.out)
      go_wp2_with (first
        | ((with_reducible refine wpAt 80 ?_); refine wpList_unguard rfl (wpList_load_row rfl 46 _ rfl gd rfl 46 #[.int .i64 c.d, .int .i64 c.s, .int .i64 c.k, .int .i64 c.e, .int .i64 c.a, .int .i64 c.o] (0, 0) _ HCD.out Tryd.underlying46 rfl (infoCf _ rfl) ?_))
        | ((with_reducible refine wpAt 81 ?_); refine wpList_unguard rfl (wpList_load_row rfl 46 _ rfl w.heap.size rfl 46 #[.int .i64 c.d, .int .i64 c.s, .int .i64 c.k, .int .i64 c.e, .int .i64 c.a, .int .i64 c.o] (0, 0) _ HC5.out Tryd.underlying46 rfl (infoCf _ rfl) ?_)))
      refine HPL.out.mono ?_
      rintro x y3 ⟨p5, c5, rfl, hes5, hb3⟩
      have HE6 := Lib.hid (HE5.out.below hb3)
      have HES5 := Lib.hid hes5
      have HBX := Lib.hid (HBX'.out.trans (hb3.mono HBX'.out.size))
      clear hes5 hb3 HPL HC5 HE5 HBX' HCD HES4
      have HPL := Lib.hid (plains_any p l.length cc l y3 HE6.out (by have := HLL.out; omega))
      go_wp2_with fail
      refine HPL.out.mono ?_
      rintro x y4 ⟨p6, c6, rfl, hes6, hb3⟩
      have HAL := Lib.hid (all_any p5 p6 l4.length l.length c5 c6 l4 l y4 (HES5.out.below hb3) hes6)
      rw [decide_eq_true HEV4.out] at HAL
      have HBX' := Lib.hid (HBX.out.trans (hb3.mono HBX.out.size))
      clear hes6 hb3 HPL HES5 HE6 HBX
      go_wp2_with fail
      refine HAL.out.mono ?_
      rintro x y5 ⟨rfl, hb4⟩
      have HBX := Lib.hid (HBX'.out.trans (hb4.mono HBX'.out.size))
      clear hb4 HAL HBX'
      go_wp2_with fail
      skip
      refine (alive39_any _ (HM.out.below HBX.out)).mono ?_
      rintro x wz ⟨rfl, hb⟩
      go_wp2_with fail
      go_ret
      exact ⟨rfl, HBX.out.trans (hb.mono HBX.out.size)⟩
end Go.Proofs.YtcddgbobbogpgaaDoor.Scr

namespace Go.Proofs.YtcddgbobbogpgaaDoor.Blk
open Go.ChangeShapes Go.WideShapes Go.ChangeAt Go.RowKit Go.Mir

theorem trod_blk {W : World} {H : Type} {enc : TypeId × Value → H} {base fuel : Nat} {held : Bool} {cs : List Value} {x : DataW H × List MemPlace} (h : DataW.trod enc Tryd.prog W base (fun _ => true) held fuel 28 cs = some x) :
    ∃ d q n c, cs = bytesV d.hash ++ bytesV d.par ++ [Value.slice q n c] ∧ BlkAt W (blkA d.hash d.par q n c) d q n c := by
  obtain ⟨y0, y1, y2, m, rfl, hl, h0, h1, h2⟩ := Deep.trod_struct3 Tryd.underlying28 h
  obtain ⟨zs0, e0, l0, w0⟩ := trod_nums Tryd.underlying25 Tryd.underlying5 (by kernel_rfl) (by kernel_rfl) h0
  obtain ⟨zs1, e1, l1, w1⟩ := trod_nums Tryd.underlying25 Tryd.underlying5 (by kernel_rfl) (by kernel_rfl) h1
  obtain ⟨a0, rfl⟩ := u8_of_list zs0 w0
  obtain ⟨a1, rfl⟩ := u8_of_list zs1 w1
  obtain ⟨q, n, c, ids, e2, hi, _⟩ := trod_is Tryd.underlying26 Tryd.underlying25 Tryd.underlying5 (by kernel_rfl) (by kernel_rfl) (by omega) h2
  have hc0 : Tryd.prog.cellsOf 25 = 32 := by kernel_rfl
  have hc1 : Tryd.prog.cellsOf 26 = 1 := by kernel_rfl
  have hc2 : Tryd.prog.cellsOf 28 = 65 := by kernel_rfl
  simp only [hc0, hc1] at e0 e1 e2
  rw [hc2] at hl
  refine ⟨⟨a0, a1, ids⟩, q, n, c, ?_, rfl, by simpa using l0, by simpa using l1, hi⟩
  have e0' : cs.take 32 = bytesV a0 := by rw [show bytesV a0 = (a0.map (fun b => (b.toNat : Int))).map (Value.int .u8) by simp [bytesV]]; rw [← e0]; simp
  have e1' : (cs.drop 32).take 32 = bytesV a1 := by rw [show bytesV a1 = (a1.map (fun b => (b.toNat : Int))).map (Value.int .u8) by simp [bytesV]]; exact e1
  have e2' : cs.drop 64 = [Value.slice q n c] := by rw [← e2]; rw [List.take_of_length_le (by rw [List.length_drop]; omega)]
  show cs = bytesV a0 ++ bytesV a1 ++ [Value.slice q n c]
  rw [← e0', ← e1', ← e2', List.append_assoc, show cs.drop 64 = (cs.drop 32).drop 32 by rw [List.drop_drop], List.take_append_drop, List.take_append_drop]
set_option maxRecDepth 100000 in
theorem open_blk {W : World} {H : Type} {enc : TypeId × Value → H} {base : Nat} {v : Value} {d : DataW H} {ps : List MemPlace} (hval : Value.okWide Tryd.prog W .any base 28 v) (h : DataW.Trod enc Tryd.prog W 0 (fun _ => true) true 28 v d ps) :
    ∃ M e q n c, v = .agg M ∧ BlkAt W M e q n c := by
  obtain ⟨cs, rfl, _⟩ := okWide_struct Tryd.underlying28 hval
  obtain ⟨fuel, hf⟩ := h
  obtain ⟨e, q, n, c, he, hb⟩ := trod_blk hf
  refine ⟨_, e, q, n, c, ?_, hb⟩
  congr 1
  apply Array.toList_inj.1
  rw [blkA_toList, ← he]; simp [Value.cells]
end Go.Proofs.YtcddgbobbogpgaaDoor.Blk

namespace Go.Proofs.YtcddgbobbogpgaaDoor.Scr
open Go.ChangeShapes Go.WideShapes Go.ChangeAt Go.RowKit Go.Mir Rpl

theorem split6 (cs : List Value) (h : cs.length = 103) : cs = (cs.drop 0).take 1 ++ ((cs.drop 1).take 1 ++ ((cs.drop 2).take 65 ++ ((cs.drop 67).take 32 ++ ((cs.drop 99).take 1 ++ (cs.drop 100).take 3)))) := by
  have cut : ∀ k n : Nat, (cs.drop k).take n ++ cs.drop (k + n) = cs.drop k := fun k n => by rw [← List.drop_drop, List.take_append_drop]
  have h20 : (cs.drop 100).take 3 = cs.drop 100 := List.take_of_length_le (by simp [h])
  rw [h20, cut 99 1, cut 67 32, cut 2 65, cut 1 1, cut 0 1, List.drop_zero]
set_option maxRecDepth 100000 in
theorem trod_ev {W : World} {H : Type} {enc : TypeId × Value → H} {base fuel : Nat} {held : Bool} {cs : List Value} {x : DataW H × List MemPlace}
    (h : DataW.trod enc Tryd.prog W base (fun _ => true) held fuel 31 cs = some x) : ∃ (e : Ev) (pb : Option Addr) (cb : Nat) (q : Option Addr) (c : Nat), cs = evL e pb cb q c ∧ EvAt W e pb cb q c := by
  obtain ⟨xs, m, rfl, rfl, hl, hxl, hx⟩ := DataW.trod_struct Tryd.underlying31 h
  have hl' : cs.length = 103 := by rw [hl]; kernel_rfl
  have hxl' : xs.length = 6 := by rw [hxl]; rfl
  match xs, hxl' with
  | [x0, x1, x2, x3, x4, x5], _ =>
    have h0 := hx 0 _ rfl
    have h1 := hx 1 _ rfl
    have h2 := hx 2 _ rfl
    have h3 := hx 3 _ rfl
    have h4 := hx 4 _ rfl
    have h5 := hx 5 _ rfl
    obtain ⟨z0, e0, _, w0⟩ := DataW.trod_int Tryd.underlying22 h0
    obtain ⟨p1, n1, c1, l1, e1, b1, dl1⟩ := trod_bs Tryd.underlying23 Tryd.underlying5 rfl h1
    obtain ⟨d2, q2, n2, c2, e2, hb2⟩ := Blk.trod_blk h2
    obtain ⟨z3, e3, hz3, w3⟩ := trod_nums Tryd.underlying25 Tryd.underlying5 rfl rfl h3
    obtain ⟨z4, e4, _, w4⟩ := DataW.trod_int Tryd.underlying3 h4
    obtain ⟨z5, e5, hz5, w5⟩ := trod_nums Tryd.underlying29 Tryd.underlying3 rfl rfl h5
    obtain ⟨y3, rfl⟩ := u8_of_list z3 w3
    obtain rfl := b1.length
    obtain rfl := hb2.ids.count
    have hy : y3.length = 32 := by simpa using hz3
    match z5, hz5 with
    | [u0, u1, u2], _ =>
      refine ⟨⟨z0, l1, d2.hash, d2.par, d2.txs, y3, z4, u0, u1, u2⟩, p1, c1, q2, c2, ?_, ⟨⟨hb2.hlen, hb2.plen, hy, hb2.ids.each, i64_bd w0, i64_bd w4, i64_bd (w5 u0 (by simp)), i64_bd (w5 u1 (by simp)), i64_bd (w5 u2 (by simp))⟩, b1, hb2.ids⟩⟩
      have hs := split6 cs hl'
      have e0' : (cs.drop 0).take 1 = [.int .i64 z0] := e0
      have e1' : (cs.drop 1).take 1 = [.slice p1 l1.length c1] := e1
      have e2' : (cs.drop 2).take 65 = bytesV d2.hash ++ bytesV d2.par ++ [Value.slice q2 d2.txs.length c2] := e2
      have e3' : (cs.drop 67).take 32 = bytesV y3 := by
        refine Eq.trans (show _ = _ from e3) ?_
        simp [bytesV, List.map_map]
      have e4' : (cs.drop 99).take 1 = [.int .i64 z4] := e4
      have e5' : (cs.drop 100).take 3 = [.int .i64 u0, .int .i64 u1, .int .i64 u2] := e5
      rw [e0', e1', e2', e3', e4', e5'] at hs
      rw [hs]
      unfold evL u3L
      simp
set_option maxRecDepth 100000 in
theorem open_ev {W : World} {H : Type} {enc : TypeId × Value → H} {base : Nat} {v : Value} {d : DataW H} {ps : List MemPlace} (hval : Value.okWide Tryd.prog W .any base 31 v) (h : DataW.Trod enc Tryd.prog W 0 (fun _ => true) true 31 v d ps) :
    ∃ e pb cb q c, v = .agg (evA e pb cb q c) ∧ EvAt W e pb cb q c := by
  obtain ⟨cs, rfl, hcs⟩ := okWide_struct Tryd.underlying31 hval
  obtain ⟨fuel, hf⟩ := h
  have hf' : DataW.trod enc Tryd.prog W 0 (fun _ => true) true fuel 31 cs.toList = some (d, ps) := hf
  obtain ⟨e, pb, cb, q, c, ho, hm⟩ := trod_ev hf'
  refine ⟨e, pb, cb, q, c, ?_, hm⟩
  have : cs = (evL e pb cb q c).toArray := by rw [← Array.toArray_toList (xs := cs), ho]
  rw [this]
  rfl
end Go.Proofs.YtcddgbobbogpgaaDoor.Scr

namespace Go.Proofs.YtcddgbobbogpgaaDoor.bulks
open Go.Mir

theorem one_le {H : Type} (d : DataW H) : 1 ≤ Rows.uptoBulk d := by
  cases d with
  | lit l => cases l <;> simp [Rows.uptoBulk]
  | nil => simp [Rows.uptoBulk]
  | ptr d => simp [Rows.uptoBulk]
  | slice elems spare => simp [Rows.uptoBulk]
  | agg parts => simp [Rows.uptoBulk]
  | iface t d => simp [Rows.uptoBulk]
  | map entries => simp [Rows.uptoBulk]
  | held h => simp [Rows.uptoBulk]
theorem bulkAll_cons {H : Type} (d : DataW H) (r : List (DataW H)) : Rows.uptoBulkAll (d :: r) = Rows.uptoBulk d + Rows.uptoBulkAll r := by simp only [Rows.uptoBulkAll]
theorem bulkAll_nil {H : Type} : Rows.uptoBulkAll ([] : List (DataW H)) = 0 := by simp only [Rows.uptoBulkAll]
theorem length_le {H : Type} (l : List (DataW H)) : l.length ≤ Rows.uptoBulkAll l := by
  induction l with
  | nil => simp [Rows.uptoBulkAll]
  | cons x r ih => have := one_le x; simp only [Rows.uptoBulkAll, List.length_cons]; omega
theorem slice_eq {H : Type} (elems spare : List (DataW H)) : Rows.uptoBulk (.slice elems spare) = Rows.uptoBulkAll elems + Rows.uptoBulkAll spare + 1 := by
  simp only [Rows.uptoBulk]
theorem agg_eq {H : Type} (ds : List (DataW H)) : Rows.uptoBulk (.agg ds) = Rows.uptoBulkAll ds + 1 := by
  simp only [Rows.uptoBulk]
theorem dlen_le {H : Type} (d : DataW H) : dlen d + 1 ≤ Rows.uptoBulk d := by
  cases d with
  | slice elems spare => have := length_le elems; rw [slice_eq]; simp only [dlen]; omega
  | _ => exact one_le _
theorem dlens_le {H : Type} (l : List (DataW H)) : (l.map dlen).sum + l.length ≤ Rows.uptoBulkAll l := by
  induction l with
  | nil => simp [Rows.uptoBulkAll]
  | cons x r ih => have := dlen_le x; simp only [Rows.uptoBulkAll, List.length_cons, List.map_cons, List.sum_cons]; omega
theorem bound {H : Type} {l : List (DataW H)} (hk : Rows.uptoSmall H l = true) : Rows.uptoBulkAll l ≤ 1048576 := of_decide_eq_true hk
end Go.Proofs.YtcddgbobbogpgaaDoor.bulks

namespace Go.Proofs.YtcddgbobbogpgaaDoor.Scr
open Go.ChangeShapes Go.WideShapes Go.ChangeAt Go.RowKit Go.Mir Rpl

theorem split1s (cs : List Value) (h : cs.length = 6) : cs = (cs.drop 0).take 1 ++ ((cs.drop 1).take 1 ++ ((cs.drop 2).take 1 ++ ((cs.drop 3).take 1 ++ ((cs.drop 4).take 1 ++ (cs.drop 5).take 1)))) := by
  match cs, h with
  | [a, b, c, d, e, f], _ => rfl
set_option maxRecDepth 100000 in
theorem open_cf {W : World} {H : Type} {enc : TypeId × Value → H} {base : Nat} {v : Value} {d : DataW H} {ps : List MemPlace} (hval : Value.okWide Tryd.prog W .any base 46 v) (h : DataW.Trod enc Tryd.prog W 0 (fun _ => true) true 46 v d ps) :
    ∃ c : Cf, v = .agg (cfA c) ∧ ∀ x ∈ c.l, i64B x := by
  obtain ⟨cs, rfl, hcs⟩ := okWide_struct Tryd.underlying46 hval
  obtain ⟨fuel, hf⟩ := h
  have hf' : DataW.trod enc Tryd.prog W 0 (fun _ => true) true fuel 46 cs.toList = some (d, ps) := hf
  obtain ⟨xs, m, rfl, hd, hl, hxl, hx⟩ := DataW.trod_struct Tryd.underlying46 hf'
  have hl' : cs.toList.length = 6 := by rw [hl]; kernel_rfl
  have hxl' : xs.length = 6 := by rw [hxl]; rfl
  match xs, hxl' with
  | [x0, x1, x2, x3, x4, x5], _ =>
    obtain ⟨z0, e0, _, w0⟩ := DataW.trod_int Tryd.underlying3 (hx 0 _ rfl)
    obtain ⟨z1, e1, _, w1⟩ := DataW.trod_int Tryd.underlying3 (hx 1 _ rfl)
    obtain ⟨z2, e2, _, w2⟩ := DataW.trod_int Tryd.underlying3 (hx 2 _ rfl)
    obtain ⟨z3, e3, _, w3⟩ := DataW.trod_int Tryd.underlying3 (hx 3 _ rfl)
    obtain ⟨z4, e4, _, w4⟩ := DataW.trod_int Tryd.underlying3 (hx 4 _ rfl)
    obtain ⟨z5, e5, _, w5⟩ := DataW.trod_int Tryd.underlying3 (hx 5 _ rfl)
    have hs := split1s _ hl'
    have e0' : (cs.toList.drop 0).take 1 = [.int .i64 z0] := e0
    have e1' : (cs.toList.drop 1).take 1 = [.int .i64 z1] := e1
    have e2' : (cs.toList.drop 2).take 1 = [.int .i64 z2] := e2
    have e3' : (cs.toList.drop 3).take 1 = [.int .i64 z3] := e3
    have e4' : (cs.toList.drop 4).take 1 = [.int .i64 z4] := e4
    have e5' : (cs.toList.drop 5).take 1 = [.int .i64 z5] := e5
    rw [e0', e1', e2', e3', e4', e5'] at hs
    refine ⟨⟨z0, z1, z2, z3, z4, z5⟩, ?_, ?_⟩
    · have : cs = (cfA ⟨z0, z1, z2, z3, z4, z5⟩) := by rw [← Array.toArray_toList (xs := cs), hs]; rfl
      rw [this]
    · intro x hx
      have hx : x ∈ [z0, z1, z2, z3, z4, z5] := hx
      simp only [List.mem_cons, List.not_mem_nil, or_false] at hx
      rcases hx with rfl | rfl | rfl | rfl | rfl | rfl
      · exact i64_bd w0
      · exact i64_bd w1
      · exact i64_bd w2
      · exact i64_bd w3
      · exact i64_bd w4
      · exact i64_bd w5
theorem flat_map {α β : Type} (f : α → List β) : ∀ L : List (List β × α), (∀ x ∈ L, x.1 = f x.2) → (L.map (·.1)).flatten = (L.map (·.2)).flatMap f
  | [], _ => rfl
  | x :: L, h => by
    rw [List.map_cons, List.map_cons, List.flatten_cons, List.flatMap_cons, h x (by simp), flat_map f L (fun y hy => h y (List.mem_cons_of_mem _ hy))]
set_option maxRecDepth 100000 in
theorem trod_evs {W : World} {H : Type} {enc : TypeId × Value → H} {base fuel : Nat} {held : Bool} {cs : List Value} {x : DataW H × List MemPlace}
    (h : DataW.trod enc Tryd.prog W base (fun _ => true) held fuel 47 cs = some x) :
    ∃ p n c l, cs = [.slice p n c] ∧ Es W p n c l := by
  obtain ⟨p, n, c, L, hcs, hr, hdl, hL⟩ := trod_rows (size := 103) (R := fun (r : ER) cs' (_ : DataW H) => cs' = r.l ∧ r.At W) Tryd.underlying47 (by kernel_rfl) (by omega) (fun m cs' y hy => by
    obtain ⟨e, pb, cb, q, c, ho, hm⟩ := trod_ev hy
    exact ⟨⟨e, pb, cb, q, c⟩, ho, hm⟩) h
  have hc : L.length = n := by
    have := hr.count
    simpa using this
  have hall : ∀ x ∈ L, x.1 = x.2.l ∧ x.2.At W := fun x hx => by
    obtain ⟨i, hi, rfl⟩ := List.mem_iff_getElem.1 hx
    rcases hL with ⟨_, hL⟩ | ⟨elems, spare, hd, hlen, hall⟩
    · subst hL; simp at hi
    · exact hall i (by omega) hi
  refine ⟨p, n, c, L.map (·.2), hcs, ⟨?_, fun r hr => ?_, by simpa using hc⟩⟩
  · rw [← flat_map ER.l L (fun x hx => (hall x hx).1)]
    exact hr.sl
  · obtain ⟨x, hx, rfl⟩ := List.mem_map.1 hr
    exact (hall x hx).2
set_option maxRecDepth 100000 in
theorem open_evs {W : World} {H : Type} {enc : TypeId × Value → H} {base : Nat} {v : Value} {d : DataW H} {ps : List MemPlace} (hval : Value.okWide Tryd.prog W .any base 47 v) (h : DataW.Trod enc Tryd.prog W 0 (fun _ => true) true 47 v d ps) :
    ∃ p n c l, v = .slice p n c ∧ Es W p n c l := by
  obtain ⟨a, n0, c0, rfl⟩ := okWide_slice Tryd.underlying47 hval
  obtain ⟨fuel, hf⟩ := h
  obtain ⟨p, n, c, l, hcs, hE⟩ := trod_evs hf
  refine ⟨p, n, c, l, ?_, hE⟩
  simp [Value.cells] at hcs
  obtain ⟨rfl, rfl, rfl⟩ := hcs
  rfl
end Go.Proofs.YtcddgbobbogpgaaDoor.Scr
