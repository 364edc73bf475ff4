/- PARTS, JOINED: THE REFERENCE'S DISK: Do. Conditions: sizes that fit. -/
import Derived.Test.YtgmahahhkaofbaaGreatDoorSd1
import Derived.Test.YtgmahahhkaofbaaGreatDoorSd2
import Derived.Test.YtgmahahhkaofbaaGreatDoorSd3
import Derived.Test.YtgmahahhkaofbaaGreatDoorSd4
import Derived.Test.YtgmahahhkaofbaaGreatDoorSd5
namespace Go.Proofs.YtgmahahhkaofbaaGreatDoor.Rk
open Go.RowKit Go.Mir Go.Mir.Parts Dk

theorem threes (w : World) (a b c : Obj) : (((w.alloc a).alloc b).alloc c).heap[w.heap.size]? = some a ∧ (((w.alloc a).alloc b).alloc c).heap[w.heap.size + 1]? = some b ∧ (((w.alloc a).alloc b).alloc c).heap[w.heap.size + 2]? = some c ∧ (((w.alloc a).alloc b).alloc c).heap.size = w.heap.size + 3 ∧ Below w.heap.size w (((w.alloc a).alloc b).alloc c) := by
  obtain ⟨h1, h2, h3, h4⟩ := two_allocs w a b
  have hb : Below ((w.alloc a).alloc b).heap.size ((w.alloc a).alloc b) (((w.alloc a).alloc b).alloc c) := Below.allocs _ _
  refine ⟨Below.keepOld hb h1, Below.keepOld hb h2, ?_, by simp, h4.trans (hb.mono h4.size)⟩
  have := heap_alloc_last ((w.alloc a).alloc b) c
  rwa [h3] at this
theorem doE_down {d : DD} {i : Nat} {f : FD} {s : St} (h : d.down = true) : doD d i f s = d ∧ doE d i f s = 18 := by
  unfold doD doE
  rw [if_pos h, if_pos h]; exact ⟨rfl, rfl⟩
theorem doE_full {d : DD} {i : Nat} {f : FD} {s : St} (h : d.down = false) (hr : d.room < usedL d.fs - f.need + max f.need (s.size f.now.length)) : doD d i f s = d ∧ doE d i f s = 17 := by
  unfold doD doE
  have hn : ¬ d.down = true := by rw [h]; decide
  rw [if_neg hn, if_pos hr, if_neg hn, if_pos hr]; exact ⟨rfl, rfl⟩
theorem doE_ok {d : DD} {i : Nat} {f : FD} {s : St} (h : d.down = false) (hr : ¬ d.room < usedL d.fs - f.need + max f.need (s.size f.now.length)) : doD d i f s = (setF d i (f.take s)).burn ∧ doE d i f s = if (setF d i (f.take s)).burn.down = true then 18 else 0 := by
  unfold doD doE
  have hn : ¬ d.down = true := by rw [h]; decide
  rw [if_neg hn, if_neg hr, if_neg hn, if_neg hr]; exact ⟨rfl, rfl⟩
theorem used_take {d : DD} {i : Nat} {f : FD} {s : St} (hi : i < d.fs.length) (hf : d.fs[i] = f) : usedL (setF d i (f.take s)).fs = usedL d.fs - f.need + max f.need (s.size f.now.length) := by
  have h1 := usedL_set hi (f.take s)
  have h2 := usedL_mem hi
  rw [hf] at h1 h2
  have h3 : (f.take s).need = max f.need (s.size f.now.length) := rfl
  show usedL (d.fs.set i (f.take s)) = _
  omega
theorem RQ.beside {base g : Nat} {ts : List RF} {d : DD} {x y : World} (h : RQ base g ts d x) (k : KR base x y) (hr : y.heap[g]? = x.heap[g]?) : RQ base g ts d y :=
  ⟨by rw [hr]; exact h.row, h.low, h.n3, h.m3, fun i t f a b => ⟨(h.each i t f a b).1.step k, (h.each i t f a b).2⟩, h.room1, h.fuse1, h.used⟩
theorem RQ.twin {base g : Nat} {ts : List RF} {d : DD} {x : World} (h : RQ base g ts d x) (hb : base ≤ x.heap.size) : RQ base x.heap.size ts d ((x.alloc (.cells zD 37)).setRow x.heap.size (rdA ts d)) ∧ Below x.heap.size x ((x.alloc (.cells zD 37)).setRow x.heap.size (rdA ts d)) := by
  have h1 : Below x.heap.size x ((x.alloc (.cells zD 37)).setRow x.heap.size (rdA ts d)) := below_setRow (Below.allocs x _) (Nat.le_refl _) _
  refine ⟨⟨setRow_heap _ _ _ _ _ _ (heap_alloc_last x _), hb, h.n3, h.m3, fun i t f a b => ⟨(h.each i t f a b).1.step (.of_below h1), (h.each i t f a b).2⟩, h.room1, h.fuse1, h.used⟩, h1⟩
theorem row_rangeR {w : World} {b : Nat} {A : Array Value} {t : TypeId} {fr : Nat × Nat} (h : w.heap[b]? = some (.cells A t fr)) : w.rangeAt b 0 A.toList := fun j v hv => by
  rw [cell_of_row _ _ _ _ _ _ h, ← Array.getElem?_toList, Nat.zero_add]; exact hv
theorem take_len (f : FD) (s : St) : (f.take s).steps.length = f.steps.length + 1 := by
  show (f.steps ++ [s]).length = _
  simp
theorem one_rows {w : World} {p : Option Addr} {c : Nat} {l : List St} {rows : List (List Value)} (h : Rs w p l.length c 3 rows) (hs : ∀ (i : Nat) (r : List Value) (s : St), rows[i]? = some r → l[i]? = some s → StR w r s) : ∀ u ∈ rows.flatten, u.oneCell' = true := by
  intro u hu
  obtain ⟨r, hr, hur⟩ := List.mem_flatten.1 hu
  obtain ⟨i, hi, rfl⟩ := List.mem_iff_getElem.1 hr
  have hil : i < l.length := by rw [← h.count]; exact hi
  have hst := hs i rows[i] l[i] (List.getElem?_eq_getElem hi) (List.getElem?_eq_getElem hil)
  generalize rows[i] = r at *
  generalize l[i] = s at *
  cases s with
  | put B =>
    obtain ⟨q, k, rfl, _⟩ := hst
    simp only [List.mem_cons, List.not_mem_nil, or_false] at hur
    rcases hur with rfl | rfl | rfl <;> rfl
  | cut m =>
    have hst : r = _ := hst
    subst hst
    simp only [List.mem_cons, List.not_mem_nil, or_false] at hur
    rcases hur with rfl | rfl | rfl <;> rfl
set_option maxRecDepth 100000 in
set_option maxHeartbeats 6400000 in
theorem rdo_put (ts : List RF) (d : DD) (i : Nat) (hi : i < 3) (f : FD) (hf : d.fs[i]? = some f) (B : List UInt8) (q : Option Addr) (k : Nat) (w : World) (h : RDB w ts d) (hur : usedL d.fs ≤ d.room) (hb : ∀ y, KR 0 w y → Bs y q B.length k B) (hu : B.length ≤ 60000) (hfew : f.steps.length + 1 ≤ 2199023255552) :
    Calls Tryz.prog 18 #[.agg (rdA ts d), .int .i64 (i : Int), .agg #[.bool false, .int .i64 0, .slice q B.length k]] w (ROut (doD d i f (.put B)) (doE d i f (.put B)) w) := by
  have hs : (St.put B).ok f.now.length := trivial
  have hu2 : (St.put B).units ≤ 60000 := hu
  have hsr : ∀ y, KR 0 w y → StR y [.bool false, .int .i64 0, .slice q B.length k] (.put B) := fun y hy => ⟨q, k, rfl, hb y hy⟩
  have hsz0 : (St.put B).size f.now.length ≤ f.now.length + 60000 := by show f.now.length + B.length ≤ _; omega
  -- region 1 of a step that may be done: RV its cells; then on
  have hz := zeroD
  obtain ⟨q1, q2, q3, q4, q5⟩ := threes w (.cells (rdA ts d) 37) (.cells (#[.bool false, .int .i64 0, .slice q B.length k] : Array Value) 70) (.cells zD 37)
  have HQ : Hid (RQ w.heap.size w.heap.size ts d (((w.alloc (.cells (rdA ts d) 37)).alloc (.cells (#[.bool false, .int .i64 0, .slice q B.length k] : Array Value) 70)).alloc (.cells zD 37))) := RQ.of h q5 (Nat.le_refl _) q1
  have HSB := Lib.hid q2
  have HZX := Lib.hid q3
  have HSZ := Lib.hid q4
  have HLOW := Lib.hid q5
  clear q1 q2 q3 q4 q5
  have hi3 : i < d.fs.length := by rw [h.m3]; exact hi
  have hfe : d.fs[i] = f := by rw [List.getElem?_eq_getElem hi3] at hf; exact Option.some.inj hf
  have hti : i < ts.length := by rw [h.n3]; exact hi
  have ht : ts[i]? = some (ts[i]'hti) := List.getElem?_eq_getElem hti
  generalize ts[i]'hti = t at *
  obtain ⟨hrf, hnd⟩ := h.each i t f ht hf
  obtain ⟨rows, hrw⟩ := hrf
  have hrf := (hrw w (KR.refl _ _)).at
  have hrs := (hrw w (KR.refl _ _)).rs
  have hst := (hrw w (KR.refl _ _)).st
  have HRB := Lib.hid hrw
  have hnb : f.need ≤ 1000000 := by have h1 := usedL_mem hi3; have h2 := h.used; rw [hfe] at h1; omega
  have HUT := Lib.hid (used_take (s := (St.put B)) hi3 hfe)
  have hnl := hrf.ok.le
  have HTK := Lib.hid (FD.take_ok hrf.ok hs (by omega))
  have HNT := Lib.hid (nd_take hnd hrf.ok hs)
  have hub := h.used
  have hr65 := h.room1.2
  have HFU : Hid (usedL (setF d i (f.take (St.put B))).fs ≤ 1000000) := by
    show _ ≤ _
    rw [HUT.out]
    have h3 := usedL_mem hi3
    rw [hfe] at h3
    have h4 : (St.put B).size f.now.length ≤ f.now.length + 60000 := hsz0
    omega
  have HF := Lib.hid hf
  have HT := Lib.hid ht
  have HRF := Lib.hid hrf
  have HRS := Lib.hid hrs
  have HST := Lib.hid hst
  have HSR := Lib.hid hsr
  have HNB := Lib.hid hnb
  have HFEW := Lib.hid hfew
  have d1 : decide ((i : Int) < 0) = false := decide_eq_false (by omega)
  have d2 : decide ((2 : Int) < (i : Int)) = false := decide_eq_false (by omega)
  have d3 : decide (2 < i) = false := decide_eq_false (by omega)
  have HRO := Lib.hid hur
  clear hf hfe hnd hrs hst hnb hub hrf ht hsr hfew hrw
  clear h hur hb hu2 hsz0 hnl hr65 hi3 hti
  obtain ⟨DX, hDX⟩ : ∃ DX, doD d i f (.put B) = DX := ⟨_, rfl⟩
  obtain ⟨EX, hEX⟩ : ∃ EX, doE d i f (.put B) = EX := ⟨_, rfl⟩
  rw [hDX, hEX]
  have HDX := Lib.hid hDX
  have HEX := Lib.hid hEX
  clear hDX hEX hs
  go_enter Tryz.func18, Tryz.ntmps18
  go_upto_region 1 with fail
  generalize ((w.alloc (.cells (rdA ts d) 37)).alloc (.cells #[.bool false, .int .i64 0, .slice q B.length k] 70)).alloc (.cells zD 37) = w2 at *
  have HC0 : Hid (∀ w', Below w2.heap.size w2 w' → w'.cell? ⟨w.heap.size + 1, 0, none⟩ = some (.bool false)) := fun w' hb => by rw [cell_of_row _ _ _ _ _ _ (Below.keepOld hb HSB.out)]; rfl
  have HC1 : Hid (∀ w', Below w2.heap.size w2 w' → w'.cell? ⟨w.heap.size + 1, 1, none⟩ = some (.int .i64 0)) := fun w' hb => by rw [cell_of_row _ _ _ _ _ _ (Below.keepOld hb HSB.out)]; rfl
  refine wp_region_eager [(0, true), (1, true), (2, true), (3, true), (4, true), (5, true), (6, true), (7, true), (8, true), (9, true), (10, true), (11, true), (12, true), (13, true), (14, true), (15, true), (16, true), (17, true), (18, true), (19, true), (20, false), (21, true), (22, true), (23, true), (24, true), (25, true)] (by kernel_rfl) (by kernel_rfl) (eagerOpen rfl ?_)
  have hyl : Below w2.heap.size w2 w2.drew := below_drew1 _ _
  repeat (first
    | (first | (apply wpEager_take; (· rfl); (· (intro w' hb'; go_simp; try with_reducible rfl)); (try simp only [Act.put, List.setIfInBounds_toArray, List.set_cons_zero, List.set_cons_succ]); (try refine eagerOpen rfl ?_)) | (refine wpEager_skip (by rfl) ?_; (try simp only [Act.put, List.setIfInBounds_toArray, List.set_cons_zero, List.set_cons_succ]); (try refine eagerOpen rfl ?_)) | (refine wpEager_off (by rfl) ?_; (try simp only [Act.put, List.setIfInBounds_toArray, List.set_cons_zero, List.set_cons_succ]); (try refine eagerOpen rfl ?_)))
    | (apply wpEager_take; (· rfl); (· (intro w' hb'; have hk' := (fun w' hb => HC0.out w' hb) w' hb'; go_split_ands; go_simp; try with_reducible rfl)); (try simp only [Act.put, List.setIfInBounds_toArray, List.set_cons_zero, List.set_cons_succ]); (try refine eagerOpen rfl ?_)))
  refine eagerEnd ?_
  skip
  have hq1 := HQ.out.next hyl
  have hs1 := Below.keepOld hyl HSB.out
  have hz1 := Below.keepOld hyl HZX.out
  have hl1 := HLOW.out.trans (hyl.mono HLOW.out.size)
  clear HQ HSB HZX HLOW HC0 HC1 HSZ
  have HQ := Lib.hid hq1
  have HSB := Lib.hid hs1
  have HZX := Lib.hid hz1
  have HLOW := Lib.hid hl1
  clear hq1 hs1 hz1 hl1 hyl
  generalize w2.drew = w3 at *
  obtain ⟨_, _, hc8, _⟩ := HQ.out.cells
  cases hdn : d.down with
  | true =>
    obtain ⟨s1, s2⟩ := doE_down (i := i) (f := f) (s := .put B) hdn
    rw [HDX.out] at s1
    rw [HEX.out] at s2
    clear HDX HEX
    subst DX EX
    rw [hdn] at hc8
    clear hdn
    go_upto_region 4 with fail
    clear hc8
    skip
    -- the result: the disk of the first box, an answer
    go_wp2_with (first
      | refine wpList_load_row rfl 37 _ rfl w.heap.size rfl 37 (rdA ts d) (0, 0) _ HQ.out.row Tryz.underlying37 rfl (infoRD _ (rdA_size HQ.out.n3 HQ.out.m3)) ?_
      | refine wpList_store_row rfl 37 _ _ rfl (w.heap.size + 2) (rdA ts d) rfl rfl 37 zD HZX.out (infoRD _ (rdA_size HQ.out.n3 HQ.out.m3)) (by rw [rdA_size HQ.out.n3 HQ.out.m3]; rfl) (rdA_one HQ.out.n3 HQ.out.m3) ?_)
    have HS := Lib.hid (setRow_heap _ _ _ (rdA ts d) _ _ HZX.out)
    refine bodyPost_ret (results_cell_tmp2 rfl _ _ _ _ _ _ _ rfl HS.out Tryz.underlying37 rfl (infoRD _ (rdA_size HQ.out.n3 HQ.out.m3))) rfl ?_
    exact ⟨ts, rfl, HQ.out.done HZX.out (by omega), below_setRow HLOW.out (by omega) _⟩
  | false =>
    rw [hdn] at hc8
    skip
    -- from the step that may be done (region 4 on): w3, HQ, HSB, HZX, HLOW, hc8; (#[.bool false, .int .i64 0, .slice q B.length k] : Array Value), (St.put B)
    go_upto_region 6 with (first
      | refine wpList_load_row rfl 37 _ rfl w.heap.size rfl 37 (rdA ts d) (0, 0) _ HQ.out.row Tryz.underlying37 rfl (infoRD _ (rdA_size HQ.out.n3 HQ.out.m3)) ?_
      | refine wpList_store_row rfl 37 _ _ rfl w3.heap.size (rdA ts d) rfl rfl 37 zD (heap_alloc_last _ _) (infoRD _ (rdA_size HQ.out.n3 HQ.out.m3)) (by rw [rdA_size HQ.out.n3 HQ.out.m3]; rfl) (rdA_one HQ.out.n3 HQ.out.m3) ?_)
    try simp only [Act.put]
    clear hc8
    have hws : w.heap.size + 2 < w3.heap.size := (Array.getElem?_eq_some_iff.1 HZX.out).1
    obtain ⟨hq4, hb4⟩ := HQ.out.twin (by omega)
    have hq1 := HQ.out.next hb4
    have hs1 := Below.keepOld hb4 HSB.out
    have hz1 := Below.keepOld hb4 HZX.out
    have hl1 := HLOW.out.trans (hb4.mono HLOW.out.size)
    have hs4 : w3.heap.size < ((w3.alloc (.cells zD 37)).setRow w3.heap.size (rdA ts d)).heap.size := (Array.getElem?_eq_some_iff.1 hq4.row).1
    clear HQ HSB HZX HLOW
    generalize (w3.alloc (.cells zD 37)).setRow w3.heap.size (rdA ts d) = w4 at *
    have HQ1 := Lib.hid hq1
    have HQ2 := Lib.hid hq4
    have HSB := Lib.hid hs1
    have HZX := Lib.hid hz1
    have HLOW := Lib.hid hl1
    have HS4 := Lib.hid hb4
    clear hq4 hq1 hs1 hz1 hl1 hb4
    have hcf := (rdA_file HQ1.out.n3 HQ1.out.m3 i HT.out HF.out).2
    have hkc : Hid (∀ w', Below w3.heap.size w3 w' → w'.cell? ⟨w.heap.size, i * 2 + 1, none⟩ = some (.slice t.sp f.steps.length t.sc)) := fun w' hb => by
      have h3 : w3.heap[w.heap.size]? = some (.cells (rdA ts d) 37 (0, 0)) := by rw [← HS4.out.block _ (by omega)]; exact HQ1.out.row
      rw [cell_of_row _ _ _ _ _ _ (Below.keepOld hb h3)]; exact hcf
    have hkM : Hid (∀ w', Below w3.heap.size w3 w' → w'.rangeAt (w.heap.size + 1) 0 (#[.bool false, .int .i64 0, .slice q B.length k] : Array Value).toList) := fun w' hb => by
      have h3 : w3.heap[w.heap.size + 1]? = some (.cells (#[.bool false, .int .i64 0, .slice q B.length k] : Array Value) 70 (0, 0)) := by rw [← HS4.out.block _ (by omega)]; exact HSB.out
      exact row_rangeR (Below.keepOld hb h3)
    clear hcf
    have hi3j : (i : Int) < 3 := by omega
    have HON : Hid (∀ u ∈ rows.flatten, u.oneCell' = true) := one_rows HRS.out HST.out
    have HON2 : Hid (∀ u ∈ (#[.bool false, .int .i64 0, .slice q B.length k] : Array Value).toList, u.oneCell' = true) := by
      show ∀ u ∈ _, _
      intro u hu
      simp only [List.mem_cons, List.not_mem_nil, or_false] at hu
      rcases hu with rfl | rfl | rfl <;> rfl
    have HK1 : Hid (0 + f.steps.length ≤ 9223372036854775807 ∧ (0 + f.steps.length) * 40 ≤ 140737488355328) := ⟨by have := HFEW.out; omega, by have := HFEW.out; omega⟩
    have HK3 : Hid (f.steps.length + 1 ≤ 9223372036854775807 ∧ (f.steps.length + 1) * 40 ≤ 140737488355328) := ⟨by have := HFEW.out; omega, by have := HFEW.out; omega⟩
    have HK2 : Hid (0 + f.steps.length + 1 ≤ 9223372036854775807 ∧ (0 + f.steps.length + 1) * 40 ≤ 140737488355328) := ⟨by have := HFEW.out; omega, by have := HFEW.out; omega⟩
    refine wp_region_tree (Below w3.heap.size w3) (.take 0 (.take 2 (.take 3 (.take 4 (.take 5 (.take 6 (.take 8 (.take 11 (.two 1 9 (.two 7 9 (.one 9 (.one 10 (.take 12 (.take 13 (.one 14 .nil))))) (.one 7 (.one 10 (.take 12 (.take 13 (.one 14 .nil)))))) (.one 1 (.one 7 (.one 10 (.take 12 (.take 13 (.one 14 .nil)))))))))))))))  (by kernel_rfl) (by kernel_rfl) (HS4.out.trans ((below_drew1 _ _).mono HS4.out.size)) ?_
    have hyd : Below w4.heap.size w4 w4.drew := below_drew1 _ _
    have hzd : w3.heap.size < w4.drew.heap.size := hs4
    have hq1 := HQ1.out.next hyd
    have hq4 := HQ2.out.next hyd
    have hs1 := Below.keepOld hyd HSB.out
    have hz1 := Below.keepOld hyd HZX.out
    have hl1 := HLOW.out.trans (hyd.mono HLOW.out.size)
    have hsd := HS4.out.trans (hyd.mono HS4.out.size)
    clear HQ1 HQ2 HSB HZX HLOW HS4 hyd hs4
    generalize w4.drew = wd at *
    have HQ1 := Lib.hid hq1
    have HQ2 := Lib.hid hq4
    have HZX := Lib.hid hz1
    have HLOW := Lib.hid hl1
    have HSD := Lib.hid hsd
    clear hq1 hq4 hs1 hz1 hl1 hsd
    have hSL : Hid (∀ w', Below wd.heap.size wd w' → Sl w' t.sp f.steps.length t.sc 3 rows.flatten) := fun w' hb => HRS.out.sl.below (HLOW.out.trans (hb.mono HLOW.out.size))
    iterate 5 ((apply tree_take; (· rfl); (· rfl); (· (intro w' hb'; go_simp; try with_reducible rfl)); try simp only [Act.put, List.setIfInBounds_toArray, List.set_cons_zero, List.set_cons_succ]))
    (apply tree_take; (· rfl); (· rfl); (· (intro w' hb'; have hk' := (hkc.out) w' hb'; go_simp; try with_reducible rfl)); try simp only [Act.put, List.setIfInBounds_toArray, List.set_cons_zero, List.set_cons_succ])
    refine tree_load rfl (by rfl) 70 _ rfl (w.heap.size + 1) 0 rfl (#[.bool false, .int .i64 0, .slice q B.length k] : Array Value) _ (fun w' hb => hkM.out w' hb) Tryz.underlying70 rfl (infoSt _ rfl) ?_
    try simp only [Act.put, List.setIfInBounds_toArray, List.set_cons_zero, List.set_cons_succ]
    iterate 1 ((apply tree_take; (· rfl); (· rfl); (· (intro w' hb'; go_simp; try with_reducible rfl)); try simp only [Act.put, List.setIfInBounds_toArray, List.set_cons_zero, List.set_cons_succ]))
    have hb0 : Below wd.heap.size wd (wd.alloc (.cells #[] 70)) := Below.allocs _ _
    have hb5 : Below wd.heap.size wd (wd.alloc (.cells (#[.bool false, .int .i64 0, .slice q B.length k] : Array Value) 70)) := Below.allocs _ _
    refine tree_two ?_ (?_)
    · refine tree_one rfl (by rfl) (fun K hK => ?_)
      go_simp
      refine Shut.out hK _ _ (HSD.out.trans (hb0.mono HSD.out.size)) ?_
      clear hK K
      try simp only [Act.put, List.setIfInBounds_toArray, List.set_cons_zero, List.set_cons_succ]
      have o1 : (wd.alloc (.cells #[] 70)).ownsRow wd.heap.size 70 3 (.slice (some ⟨wd.heap.size, 0, none⟩) 0 0) 0 [] := own_made0 wd _ _ _ _ rfl (Nat.le_refl _)
      have hz1 : wd.heap.size ≤ (wd.alloc (.cells #[] 70)).heap.size := hb0.size
      generalize wd.alloc (.cells #[] 70) = wa at *
      refine tree_two ?_ ?_
      · refine tree_one rfl (by rfl) (fun K hK => oper_of_list rfl ?_)
        refine wpList_append_nx rfl _ _ 32 rfl (base := wd.heap.size) Tryz.underlying32 infoSteps (by rfl) (by omega) rfl o1 rfl (hSL.out _ hb0) HON.out HK1.out hz1 ?_
        intro p2 c2 w5 o2 hg2 hnx2 _
        rw [Nat.zero_add f.steps.length] at *
        have hb2 : Below wd.heap.size wd w5 := hb0.grown hg2 hz1 (fun i hi => (o1.lt i hi).1)
        refine only_end (Shut.out hK _ _ (HSD.out.trans (hb2.mono HSD.out.size)) ?_)
        clear hK K
        try simp only [Act.put, List.setIfInBounds_toArray, List.set_cons_zero, List.set_cons_succ]
        have hz2 : wd.heap.size ≤ w5.heap.size := hb2.size
        refine tree_one rfl (by rfl) (fun K hK => oper_of_list rfl ?_)
        refine wpList_buildOne rfl 32 70 _ rfl (#[.bool false, .int .i64 0, .slice q B.length k] : Array Value) rfl 3 Tryz.underlying32 (by kernel_rfl) (by omega) (by omega) rfl ?_
        have hb6 := hb2.alloc hz2 (.cells (#[.bool false, .int .i64 0, .slice q B.length k] : Array Value) 70)
        have o6 := own_below_alloc o2 (.cells (#[.bool false, .int .i64 0, .slice q B.length k] : Array Value) 70)
        have r6 := heap_alloc_last w5 (.cells (#[.bool false, .int .i64 0, .slice q B.length k] : Array Value) 70)
        have hz6 : wd.heap.size ≤ (w5.alloc (.cells (#[.bool false, .int .i64 0, .slice q B.length k] : Array Value) 70)).heap.size := hb6.size
        refine only_end (Shut.out hK _ _ (HSD.out.trans (hb6.mono HSD.out.size)) ?_)
        clear hK K
        try simp only [Act.put, List.setIfInBounds_toArray, List.set_cons_zero, List.set_cons_succ]
        generalize w5.alloc (.cells (#[.bool false, .int .i64 0, .slice q B.length k] : Array Value) 70) = w6 at *
        refine tree_one rfl (by rfl) (fun K hK => oper_of_list rfl ?_)
        refine wpList_append_nx rfl _ _ 32 rfl (base := wd.heap.size) Tryz.underlying32 infoSteps (by rfl) (by omega) rfl o6 rfl (row_sl r6 3 rfl) HON2.out HK3.out hz6 ?_
        intro p9 c9 wf o9 hg9 hnx9 _
        have hbf : Below wd.heap.size wd wf := hb6.grown hg9 hz6 (fun i hi => (o6.lt i hi).1)
        refine only_end (Shut.out hK _ _ (HSD.out.trans (hbf.mono HSD.out.size)) ?_)
        clear hK K
        try simp only [Act.put, List.setIfInBounds_toArray, List.set_cons_zero, List.set_cons_succ]
        skip
        -- wf: both lists are joined (o9); the step is stored, the used is weighed
        iterate 2 ((apply tree_take; (· rfl); (· rfl); (· (intro w' hb'; go_simp; try with_reducible rfl)); try simp only [Act.put, List.setIfInBounds_toArray, List.set_cons_zero, List.set_cons_succ]))
        have hcf := (rdA_file HQ2.out.n3 HQ2.out.m3 i HT.out HF.out).2
        have hq6 := HQ2.out.next hbf
        have hc14 : wf.cell? ⟨w3.heap.size, i * 2 + 1, none⟩ = some (.slice t.sp f.steps.length t.sc) := by rw [cell_of_row _ _ _ _ _ _ hq6.row]; exact hcf
        have hfz14 : wf.frozen? ⟨w3.heap.size, i * 2 + 1, none⟩ = false := frozen_of_row _ _ _ _ _ hq6.row
        have hsn : Rb w.heap.size wf ⟨t.kp, t.kc, p9, c9⟩ (f.take (St.put B)) := Rb.snoc HRB.out HSR.out rfl HTK.out (by have := HFEW.out; omega) (HLOW.out.trans (hbf.mono HLOW.out.size)) o9
        obtain ⟨hq7, hk7⟩ := hq6.steps i hi HT.out HF.out p9 c9 (f.take (St.put B)) rfl hsn HNT.out HFU.out
        rw [take_len] at hq7 hk7
        have hst7 : Below w3.heap.size w3 (wf.setCell ⟨w3.heap.size, i * 2 + 1, none⟩ (.slice p9 (f.steps.length + 1) c9)) := (HSD.out.trans (hbf.mono HSD.out.size)).trans (Turns.below ((Turns.refl (fun k => k = w3.heap.size) wf).setCell (p := ⟨w3.heap.size, i * 2 + 1, none⟩) (fun _ => rfl) _) (by have := hbf.size; omega) (fun _ e => by omega))
        refine tree_one rfl (by rfl) (fun K hK => ?_)
        go_simp
        refine Shut.out hK _ _ hst7 ?_
        clear hK K
        try simp only [Act.put, List.setIfInBounds_toArray, List.set_cons_zero, List.set_cons_succ]
        refine tree_nil ?_
        have hno : ∀ k : Nat, k < w3.heap.size → (wf.setCell ⟨w3.heap.size, i * 2 + 1, none⟩ (.slice p9 (f.steps.length + 1) c9)).heap[k]? = wd.heap[k]? := fun k hk => by rw [hst7.block k hk, HSD.out.block k hk]
        have hq8 := (HQ1.out.next hbf).beside hk7 (by rw [hno _ (by omega)]; exact ((hbf.block _ (by omega)).symm))
        have hz8 : (wf.setCell ⟨w3.heap.size, i * 2 + 1, none⟩ (.slice p9 (f.steps.length + 1) c9)).heap[w.heap.size + 2]? = some (.cells zD 37 (0, 0)) := by rw [hno _ (by omega)]; exact HZX.out
        have hl8 := (HLOW.out.trans (hbf.mono HLOW.out.size)).trans (Turns.below ((Turns.refl (fun k => k = w3.heap.size) wf).setCell (p := ⟨w3.heap.size, i * 2 + 1, none⟩) (fun _ => rfl) (.slice p9 (f.steps.length + 1) c9)) (by have := hbf.size; omega) (fun _ e => by omega))
        have hw8 : w3.heap.size < (wf.setCell ⟨w3.heap.size, i * 2 + 1, none⟩ (.slice p9 (f.steps.length + 1) c9)).heap.size := (Array.getElem?_eq_some_iff.1 hq7.row).1
        clear hc14 hfz14 hcf hsn hq6 hno hst7 hk7 hg9 hnx9 o9 HQ1 HQ2 HZX HLOW HSD hSL hkc hkM
        generalize wf.setCell ⟨w3.heap.size, i * 2 + 1, none⟩ (.slice p9 (f.steps.length + 1) c9) = w7 at *
        have HQ := Lib.hid hq8
        have HQ2 := Lib.hid hq7
        have HZX := Lib.hid hz8
        have HLOW := Lib.hid hl8
        clear hq8 hq7 hz8 hl8
        have hus := HUT.out
        obtain ⟨DN, hDN⟩ : ∃ DN, setF d i (f.take (St.put B)) = DN := ⟨_, rfl⟩
        obtain ⟨TN, hTN⟩ : ∃ TN, ts.set i ⟨t.kp, t.kc, p9, c9⟩ = TN := ⟨_, rfl⟩
        have hq2 := HQ2.out
        rw [hDN, hTN] at hq2
        have hE1 := @doE_full d i f (St.put B) hdn
        have hE2 := @doE_ok d i f (St.put B) hdn
        rw [hDN] at hus hE2
        rw [← hus, HDX.out, HEX.out] at hE1 hE2
        generalize usedL d.fs - f.need + max f.need ((St.put B).size f.now.length) = UN at hus
        have HE1 := Lib.hid hE1
        have HE2 := Lib.hid hE2
        have hgs : Hid (w.heap.size + 2 < w3.heap.size) := hws
        clear hE1 hE2 HQ2 HUT HTK HNT HFU HF HT HRF HRS HST HSR HRB HNB HFEW HRO HDX HEX hus hDN hTN HON HON2 HK1 HK2 HK3
        have HQ2 := Lib.hid hq2
        clear hq2
        obtain ⟨hc6, _, _, _⟩ := HQ.out.cells
        have HRM : Hid (∀ w', Below w7.heap.size w7 w' → w'.cell? ⟨w.heap.size, 6, none⟩ = some (.int .i64 (d.room : Int))) := fun w' hb => (HQ.out.next hb).cells.1
        have HLA : Hid (∀ w', Below w7.heap.size w7 w' → w'.rangeAt w3.heap.size 0 (rdA TN DN).toList) := fun w' hb => row_rangeR (Below.keepOld hb HQ2.out.row)
        clear hc6
        go_upto_region 7 with fail
        refine wp_region_eager [(0, true), (2, true), (3, true), (1, false), (4, true)] (by kernel_rfl) (by kernel_rfl) (eagerOpen rfl ?_)
        have hy0 : Below w7.heap.size w7 w7.drew := below_drew1 _ _
        repeat (first
          | ((with_reducible refine eagerLoadAt 8 ?_); refine wpEager_load (by rfl) 37 _ rfl w3.heap.size 0 rfl (rdA TN DN) _ (fun w' hb => HLA.out w' hb) Tryz.underlying37 rfl (infoRD _ (rdA_size HQ2.out.n3 HQ2.out.m3)) ?_; (try simp only [Act.put, List.setIfInBounds_toArray, List.set_cons_zero, List.set_cons_succ]); (try refine eagerOpen rfl ?_))
          | (first | (apply wpEager_take; (· rfl); (· (intro w' hb'; go_simp; try with_reducible rfl)); (try simp only [Act.put, List.setIfInBounds_toArray, List.set_cons_zero, List.set_cons_succ]); (try refine eagerOpen rfl ?_)) | (refine wpEager_skip (by rfl) ?_; (try simp only [Act.put, List.setIfInBounds_toArray, List.set_cons_zero, List.set_cons_succ]); (try refine eagerOpen rfl ?_)) | (refine wpEager_off (by rfl) ?_; (try simp only [Act.put, List.setIfInBounds_toArray, List.set_cons_zero, List.set_cons_succ]); (try refine eagerOpen rfl ?_)))
          | (apply wpEager_take; (· rfl); (· (intro w' hb'; have hk' := (fun w' hb => HRM.out w' hb) w' hb'; go_split_ands; go_simp; try with_reducible rfl)); (try simp only [Act.put, List.setIfInBounds_toArray, List.set_cons_zero, List.set_cons_succ]); (try refine eagerOpen rfl ?_)))
        (refine wpEager_op (by rfl) (fun K hK => ?_); go_simp; (refine (rused_any TN DN _ (HQ2.out.next hy0).at).mono ?_; rintro e y1 ⟨rfl, hb⟩; have hy1 := hy0.trans hb; clear hb); refine Shut.out hK _ _ (by assumption) ?_; clear hK K; (try simp only [Act.put, List.setIfInBounds_toArray, List.set_cons_zero, List.set_cons_succ]); (try refine eagerOpen rfl ?_))
        by_cases hr : d.room < usedL DN.fs
        · obtain ⟨s1, s2⟩ := HE1.out hr
          subst DX EX
          have hd1 : decide ((d.room : Int) < (usedL DN.fs : Int)) = true := decide_eq_true (by omega)
          have hd2 : decide (d.room < usedL DN.fs) = true := decide_eq_true hr
          repeat (first
            | (first | (apply wpEager_take; (· rfl); (· (intro w' hb'; go_simp; try with_reducible rfl)); (try simp only [Act.put, List.setIfInBounds_toArray, List.set_cons_zero, List.set_cons_succ]); (try refine eagerOpen rfl ?_)) | (refine wpEager_skip (by rfl) ?_; (try simp only [Act.put, List.setIfInBounds_toArray, List.set_cons_zero, List.set_cons_succ]); (try refine eagerOpen rfl ?_)) | (refine wpEager_off (by rfl) ?_; (try simp only [Act.put, List.setIfInBounds_toArray, List.set_cons_zero, List.set_cons_succ]); (try refine eagerOpen rfl ?_))))
          refine eagerEnd ?_
          have hq1 := HQ.out.next hy1
          have hz1 := Below.keepOld hy1 HZX.out
          have hl1 := HLOW.out.trans (hy1.mono HLOW.out.size)
          clear HQ HQ2 HZX HLOW HRM HLA hy0 hy1 HE1 HE2
          have HQ := Lib.hid hq1
          have HZX := Lib.hid hz1
          have HLOW := Lib.hid hl1
          clear hq1 hz1 hl1
          go_upto_region 8 with fail
          skip
          -- the result: the disk of the first box, an answer
          go_wp2_with (first
            | refine wpList_load_row rfl 37 _ rfl w.heap.size rfl 37 (rdA ts d) (0, 0) _ HQ.out.row Tryz.underlying37 rfl (infoRD _ (rdA_size HQ.out.n3 HQ.out.m3)) ?_
            | refine wpList_store_row rfl 37 _ _ rfl (w.heap.size + 2) (rdA ts d) rfl rfl 37 zD HZX.out (infoRD _ (rdA_size HQ.out.n3 HQ.out.m3)) (by rw [rdA_size HQ.out.n3 HQ.out.m3]; rfl) (rdA_one HQ.out.n3 HQ.out.m3) ?_)
          have HS := Lib.hid (setRow_heap _ _ _ (rdA ts d) _ _ HZX.out)
          refine bodyPost_ret (results_cell_tmp2 rfl _ _ _ _ _ _ _ rfl HS.out Tryz.underlying37 rfl (infoRD _ (rdA_size HQ.out.n3 HQ.out.m3))) rfl ?_
          exact ⟨ts, rfl, HQ.out.done HZX.out (by omega), below_setRow HLOW.out (by omega) _⟩
        · have HSS := Lib.hid (HE2.out hr)
          have hd1 : decide ((d.room : Int) < (usedL DN.fs : Int)) = false := decide_eq_false (by omega)
          have hd2 : decide (d.room < usedL DN.fs) = false := decide_eq_false hr
          repeat (first
            | (first | (apply wpEager_take; (· rfl); (· (intro w' hb'; go_simp; try with_reducible rfl)); (try simp only [Act.put, List.setIfInBounds_toArray, List.set_cons_zero, List.set_cons_succ]); (try refine eagerOpen rfl ?_)) | (refine wpEager_skip (by rfl) ?_; (try simp only [Act.put, List.setIfInBounds_toArray, List.set_cons_zero, List.set_cons_succ]); (try refine eagerOpen rfl ?_)) | (refine wpEager_off (by rfl) ?_; (try simp only [Act.put, List.setIfInBounds_toArray, List.set_cons_zero, List.set_cons_succ]); (try refine eagerOpen rfl ?_))))
          refine eagerEnd ?_
          have hq1 := HQ2.out.next hy1
          have hz1 := Below.keepOld hy1 HZX.out
          have hl1 := HLOW.out.trans (hy1.mono HLOW.out.size)
          clear HQ HQ2 HZX HLOW HRM HLA hy0 hy1 HE1 HE2 hr
          have HQ2 := Lib.hid hq1
          have HZX := Lib.hid hz1
          have HLOW := Lib.hid hl1
          clear hq1 hz1 hl1
          have HBU := Lib.hid (rburn_any TN DN y1 HQ2.out.n3 HQ2.out.m3 HQ2.out.fuse1)
          go_upto_region 9 with fail
          go_wp2_with (refine wpList_load_row rfl 37 _ rfl w3.heap.size rfl 37 (rdA TN DN) (0, 0) _ HQ2.out.row Tryz.underlying37 rfl (infoRD _ (rdA_size HQ2.out.n3 HQ2.out.m3)) ?_)
          refine HBU.out.mono ?_
          rintro e w8 ⟨rfl, hb8⟩
          have hq3 := HQ2.out.next hb8
          obtain ⟨hq4, hk4⟩ := hq3.burn
          obtain ⟨s1, s2⟩ := HSS.out
          rw [← s1] at s2 hq4 hk4 ⊢
          have HS2 := Lib.hid s2
          clear s1 s2 HSS
          have HQ3 := Lib.hid hq3
          have HD3 : Hid (DX.fs.length = 3) := hq4.m3
          have hz4 : (w8.setRow w3.heap.size (rdA TN DX)).heap[w.heap.size + 2]? = some (.cells zD 37 (0, 0)) := by rw [setRow_other _ _ _ _ (by omega)]; exact Below.keepOld hb8 HZX.out
          have HZ5 := Lib.hid hz4
          have HL5 : Hid (Below w.heap.size w (w8.setRow w3.heap.size (rdA TN DX))) := below_setRow (HLOW.out.trans (hb8.mono HLOW.out.size)) (by omega) _
          have HQ := Lib.hid hq4
          clear HQ2 HZX HLOW HBU hb8 hq3 hq4 hk4 hz4
          go_upto_region 10 with (refine wpList_store_row rfl 37 _ _ rfl w3.heap.size (rdA TN DX) rfl rfl 37 (rdA TN DN) HQ3.out.row (infoRD _ (rdA_size HQ3.out.n3 HD3.out)) (by rw [rdA_size HQ3.out.n3 HD3.out, rdA_size HQ3.out.n3 HQ3.out.m3]) (rdA_one HQ3.out.n3 HD3.out) ?_)
          try simp only [Act.put]
          clear HQ3
          generalize w8.setRow w3.heap.size (rdA TN DX) = w9 at *
          have HZX := HZ5
          have HLOW := HL5
          clear HZ5 HL5
          have HAN : Hid ((if DX.down = true then (18 : Int) else 0) = EX) := HS2.out.symm
          clear HS2 hd1 hd2
          skip
          -- 'return d, answer(d)': region 10 of world w9, disk DX of TN
          have HLA : Hid (∀ w', Below w9.heap.size w9 w' → w'.rangeAt w3.heap.size 0 (rdA TN DX).toList) := fun w' hb j v hv => by rw [cell_of_row _ _ _ _ _ _ (Below.keepOld hb HQ.out.row), ← Array.getElem?_toList, Nat.zero_add]; exact hv
          go_upto_region 10 with fail
          refine wp_region_eager_t (Below w9.heap.size w9) [0, 1] [(0, true), (1, true), (2, false)] [3, 4] (by kernel_rfl) (by kernel_rfl) ?_ (eagerTOpen rfl ?_)
          · exact below_drew1 _ _
          have hy0 : Below w9.heap.size w9 w9.drew := below_drew1 _ _
          repeat (first
            | ((with_reducible refine eagerTLoadAt 8 ?_); refine wpEagerT_load (by rfl) 37 _ rfl w3.heap.size 0 rfl (rdA TN DX) _ (fun w' hb => HLA.out w' hb) Tryz.underlying37 rfl (infoRD _ (rdA_size HQ.out.n3 HQ.out.m3)) ?_; (try simp only [Act.put, List.setIfInBounds_toArray, List.set_cons_zero, List.set_cons_succ]); (try refine eagerTOpen rfl ?_))
            | (first | (apply wpEagerT_take; (· rfl); (· (intro w' hb'; go_simp; try with_reducible rfl)); (try simp only [Act.put, List.setIfInBounds_toArray, List.set_cons_zero, List.set_cons_succ]); (try refine eagerTOpen rfl ?_)) | (refine wpEagerT_skip (by rfl) ?_; (try simp only [Act.put, List.setIfInBounds_toArray, List.set_cons_zero, List.set_cons_succ]); (try refine eagerTOpen rfl ?_))))
          (refine wpEagerT_op (by rfl) (fun K hK => ?_); go_simp; (refine (ranswer2 TN DX EX HAN.out _ HQ.out.n3 HQ.out.m3).mono ?_; rintro e y1 ⟨rfl, hb⟩; have hy1 := hy0.trans hb; clear hb); refine Shut.out hK _ _ (by assumption) ?_; clear hK K; (try simp only [Act.put, List.setIfInBounds_toArray, List.set_cons_zero, List.set_cons_succ]); (try refine eagerTOpen rfl ?_))
          refine eagerTEnd (tail2 rfl rfl ?_)
          have hq1 := HQ.out.next hy1
          have hz1 := Below.keepOld hy1 HZX.out
          have hl1 := HLOW.out.trans (hy1.mono HLOW.out.size)
          clear HQ HZX HLOW HLA hy0 hy1
          have HQ := Lib.hid hq1
          have HZX := Lib.hid hz1
          have HLOW := Lib.hid hl1
          clear hq1 hz1 hl1
          go_wp2_with (refine wpList_store_row rfl 37 _ _ rfl (w.heap.size + 2) (rdA TN DX) rfl rfl 37 zD HZX.out (infoRD _ (rdA_size HQ.out.n3 HQ.out.m3)) (by rw [rdA_size HQ.out.n3 HQ.out.m3]; rfl) (rdA_one HQ.out.n3 HQ.out.m3) ?_)
          refine noPanic_end ?_
          go_wp2_with fail
          have HS := Lib.hid (setRow_heap _ _ _ (rdA TN DX) _ _ HZX.out)
          refine bodyPost_ret (results_cell_tmp2 rfl _ _ _ _ _ _ _ rfl HS.out Tryz.underlying37 rfl (infoRD _ (rdA_size HQ.out.n3 HQ.out.m3))) rfl ?_
          exact ⟨TN, rfl, HQ.out.done HZX.out (by omega), below_setRow HLOW.out (by omega) _⟩
      · refine tree_one rfl (by rfl) (fun K hK => oper_of_list rfl ?_)
        refine wpList_buildOne rfl 32 70 _ rfl (#[.bool false, .int .i64 0, .slice q B.length k] : Array Value) rfl 3 Tryz.underlying32 (by kernel_rfl) (by omega) (by omega) rfl ?_
        have hb2 := hb0.alloc hz1 (.cells (#[.bool false, .int .i64 0, .slice q B.length k] : Array Value) 70)
        have o2 := own_below_alloc o1 (.cells (#[.bool false, .int .i64 0, .slice q B.length k] : Array Value) 70)
        have r2 := heap_alloc_last wa (.cells (#[.bool false, .int .i64 0, .slice q B.length k] : Array Value) 70)
        have hz2 : wd.heap.size ≤ (wa.alloc (.cells (#[.bool false, .int .i64 0, .slice q B.length k] : Array Value) 70)).heap.size := hb2.size
        have hne : wa.heap.size ≠ wd.heap.size := fun e => by have := (o1.lt wd.heap.size rfl).2; omega
        refine only_end (Shut.out hK _ _ (HSD.out.trans (hb2.mono HSD.out.size)) ?_)
        clear hK K
        try simp only [Act.put, List.setIfInBounds_toArray, List.set_cons_zero, List.set_cons_succ]
        generalize wa.alloc (.cells (#[.bool false, .int .i64 0, .slice q B.length k] : Array Value) 70) = wc at *
        refine tree_one rfl (by rfl) (fun K hK => oper_of_list rfl ?_)
        refine wpList_append_nx rfl _ _ 32 rfl (base := wd.heap.size) Tryz.underlying32 infoSteps (by rfl) (by omega) rfl o2 rfl (hSL.out _ hb2) HON.out HK1.out hz2 ?_
        intro p2 c2 w6 o6 hg2 hnx2 _
        rw [Nat.zero_add f.steps.length] at *
        rw [List.nil_append] at o6
        have hb6 : Below wd.heap.size wd w6 := hb2.grown hg2 hz2 (fun i hi => (o2.lt i hi).1)
        have r6 : w6.heap[wa.heap.size]? = some (.cells (#[.bool false, .int .i64 0, .slice q B.length k] : Array Value) 70 (0, 0)) := by
          rw [hg2.block _ (Array.getElem?_eq_some_iff.1 r2).1 (fun e => hne (by injection e))]
          exact r2
        refine only_end (Shut.out hK _ _ (HSD.out.trans (hb6.mono HSD.out.size)) ?_)
        clear hK K
        try simp only [Act.put, List.setIfInBounds_toArray, List.set_cons_zero, List.set_cons_succ]
        have hz6 : wd.heap.size ≤ w6.heap.size := hb6.size
        refine tree_one rfl (by rfl) (fun K hK => oper_of_list rfl ?_)
        refine wpList_append_nx rfl _ _ 32 rfl (base := wd.heap.size) Tryz.underlying32 infoSteps (by rfl) (by omega) rfl o6 rfl (row_sl r6 3 rfl) HON2.out HK3.out hz6 ?_
        intro p9 c9 wf o9 hg9 hnx9 _
        have hbf : Below wd.heap.size wd wf := hb6.grown hg9 hz6 (fun i hi => (o6.lt i hi).1)
        refine only_end (Shut.out hK _ _ (HSD.out.trans (hbf.mono HSD.out.size)) ?_)
        clear hK K
        try simp only [Act.put, List.setIfInBounds_toArray, List.set_cons_zero, List.set_cons_succ]
        skip
        -- wf: both lists are joined (o9); the step is stored, the used is weighed
        iterate 2 ((apply tree_take; (· rfl); (· rfl); (· (intro w' hb'; go_simp; try with_reducible rfl)); try simp only [Act.put, List.setIfInBounds_toArray, List.set_cons_zero, List.set_cons_succ]))
        have hcf := (rdA_file HQ2.out.n3 HQ2.out.m3 i HT.out HF.out).2
        have hq6 := HQ2.out.next hbf
        have hc14 : wf.cell? ⟨w3.heap.size, i * 2 + 1, none⟩ = some (.slice t.sp f.steps.length t.sc) := by rw [cell_of_row _ _ _ _ _ _ hq6.row]; exact hcf
        have hfz14 : wf.frozen? ⟨w3.heap.size, i * 2 + 1, none⟩ = false := frozen_of_row _ _ _ _ _ hq6.row
        have hsn : Rb w.heap.size wf ⟨t.kp, t.kc, p9, c9⟩ (f.take (St.put B)) := Rb.snoc HRB.out HSR.out rfl HTK.out (by have := HFEW.out; omega) (HLOW.out.trans (hbf.mono HLOW.out.size)) o9
        obtain ⟨hq7, hk7⟩ := hq6.steps i hi HT.out HF.out p9 c9 (f.take (St.put B)) rfl hsn HNT.out HFU.out
        rw [take_len] at hq7 hk7
        have hst7 : Below w3.heap.size w3 (wf.setCell ⟨w3.heap.size, i * 2 + 1, none⟩ (.slice p9 (f.steps.length + 1) c9)) := (HSD.out.trans (hbf.mono HSD.out.size)).trans (Turns.below ((Turns.refl (fun k => k = w3.heap.size) wf).setCell (p := ⟨w3.heap.size, i * 2 + 1, none⟩) (fun _ => rfl) _) (by have := hbf.size; omega) (fun _ e => by omega))
        refine tree_one rfl (by rfl) (fun K hK => ?_)
        go_simp
        refine Shut.out hK _ _ hst7 ?_
        clear hK K
        try simp only [Act.put, List.setIfInBounds_toArray, List.set_cons_zero, List.set_cons_succ]
        refine tree_nil ?_
        have hno : ∀ k : Nat, k < w3.heap.size → (wf.setCell ⟨w3.heap.size, i * 2 + 1, none⟩ (.slice p9 (f.steps.length + 1) c9)).heap[k]? = wd.heap[k]? := fun k hk => by rw [hst7.block k hk, HSD.out.block k hk]
        have hq8 := (HQ1.out.next hbf).beside hk7 (by rw [hno _ (by omega)]; exact ((hbf.block _ (by omega)).symm))
        have hz8 : (wf.setCell ⟨w3.heap.size, i * 2 + 1, none⟩ (.slice p9 (f.steps.length + 1) c9)).heap[w.heap.size + 2]? = some (.cells zD 37 (0, 0)) := by rw [hno _ (by omega)]; exact HZX.out
        have hl8 := (HLOW.out.trans (hbf.mono HLOW.out.size)).trans (Turns.below ((Turns.refl (fun k => k = w3.heap.size) wf).setCell (p := ⟨w3.heap.size, i * 2 + 1, none⟩) (fun _ => rfl) (.slice p9 (f.steps.length + 1) c9)) (by have := hbf.size; omega) (fun _ e => by omega))
        have hw8 : w3.heap.size < (wf.setCell ⟨w3.heap.size, i * 2 + 1, none⟩ (.slice p9 (f.steps.length + 1) c9)).heap.size := (Array.getElem?_eq_some_iff.1 hq7.row).1
        clear hc14 hfz14 hcf hsn hq6 hno hst7 hk7 hg9 hnx9 o9 HQ1 HQ2 HZX HLOW HSD hSL hkc hkM
        generalize wf.setCell ⟨w3.heap.size, i * 2 + 1, none⟩ (.slice p9 (f.steps.length + 1) c9) = w7 at *
        have HQ := Lib.hid hq8
        have HQ2 := Lib.hid hq7
        have HZX := Lib.hid hz8
        have HLOW := Lib.hid hl8
        clear hq8 hq7 hz8 hl8
        have hus := HUT.out
        obtain ⟨DN, hDN⟩ : ∃ DN, setF d i (f.take (St.put B)) = DN := ⟨_, rfl⟩
        obtain ⟨TN, hTN⟩ : ∃ TN, ts.set i ⟨t.kp, t.kc, p9, c9⟩ = TN := ⟨_, rfl⟩
        have hq2 := HQ2.out
        rw [hDN, hTN] at hq2
        have hE1 := @doE_full d i f (St.put B) hdn
        have hE2 := @doE_ok d i f (St.put B) hdn
        rw [hDN] at hus hE2
        rw [← hus, HDX.out, HEX.out] at hE1 hE2
        generalize usedL d.fs - f.need + max f.need ((St.put B).size f.now.length) = UN at hus
        have HE1 := Lib.hid hE1
        have HE2 := Lib.hid hE2
        have hgs : Hid (w.heap.size + 2 < w3.heap.size) := hws
        clear hE1 hE2 HQ2 HUT HTK HNT HFU HF HT HRF HRS HST HSR HRB HNB HFEW HRO HDX HEX hus hDN hTN HON HON2 HK1 HK2 HK3
        have HQ2 := Lib.hid hq2
        clear hq2
        obtain ⟨hc6, _, _, _⟩ := HQ.out.cells
        have HRM : Hid (∀ w', Below w7.heap.size w7 w' → w'.cell? ⟨w.heap.size, 6, none⟩ = some (.int .i64 (d.room : Int))) := fun w' hb => (HQ.out.next hb).cells.1
        have HLA : Hid (∀ w', Below w7.heap.size w7 w' → w'.rangeAt w3.heap.size 0 (rdA TN DN).toList) := fun w' hb => row_rangeR (Below.keepOld hb HQ2.out.row)
        clear hc6
        go_upto_region 7 with fail
        refine wp_region_eager [(0, true), (2, true), (3, true), (1, false), (4, true)] (by kernel_rfl) (by kernel_rfl) (eagerOpen rfl ?_)
        have hy0 : Below w7.heap.size w7 w7.drew := below_drew1 _ _
        repeat (first
          | ((with_reducible refine eagerLoadAt 8 ?_); refine wpEager_load (by rfl) 37 _ rfl w3.heap.size 0 rfl (rdA TN DN) _ (fun w' hb => HLA.out w' hb) Tryz.underlying37 rfl (infoRD _ (rdA_size HQ2.out.n3 HQ2.out.m3)) ?_; (try simp only [Act.put, List.setIfInBounds_toArray, List.set_cons_zero, List.set_cons_succ]); (try refine eagerOpen rfl ?_))
          | (first | (apply wpEager_take; (· rfl); (· (intro w' hb'; go_simp; try with_reducible rfl)); (try simp only [Act.put, List.setIfInBounds_toArray, List.set_cons_zero, List.set_cons_succ]); (try refine eagerOpen rfl ?_)) | (refine wpEager_skip (by rfl) ?_; (try simp only [Act.put, List.setIfInBounds_toArray, List.set_cons_zero, List.set_cons_succ]); (try refine eagerOpen rfl ?_)) | (refine wpEager_off (by rfl) ?_; (try simp only [Act.put, List.setIfInBounds_toArray, List.set_cons_zero, List.set_cons_succ]); (try refine eagerOpen rfl ?_)))
          | (apply wpEager_take; (· rfl); (· (intro w' hb'; have hk' := (fun w' hb => HRM.out w' hb) w' hb'; go_split_ands; go_simp; try with_reducible rfl)); (try simp only [Act.put, List.setIfInBounds_toArray, List.set_cons_zero, List.set_cons_succ]); (try refine eagerOpen rfl ?_)))
        (refine wpEager_op (by rfl) (fun K hK => ?_); go_simp; (refine (rused_any TN DN _ (HQ2.out.next hy0).at).mono ?_; rintro e y1 ⟨rfl, hb⟩; have hy1 := hy0.trans hb; clear hb); refine Shut.out hK _ _ (by assumption) ?_; clear hK K; (try simp only [Act.put, List.setIfInBounds_toArray, List.set_cons_zero, List.set_cons_succ]); (try refine eagerOpen rfl ?_))
        by_cases hr : d.room < usedL DN.fs
        · obtain ⟨s1, s2⟩ := HE1.out hr
          subst DX EX
          have hd1 : decide ((d.room : Int) < (usedL DN.fs : Int)) = true := decide_eq_true (by omega)
          have hd2 : decide (d.room < usedL DN.fs) = true := decide_eq_true hr
          repeat (first
            | (first | (apply wpEager_take; (· rfl); (· (intro w' hb'; go_simp; try with_reducible rfl)); (try simp only [Act.put, List.setIfInBounds_toArray, List.set_cons_zero, List.set_cons_succ]); (try refine eagerOpen rfl ?_)) | (refine wpEager_skip (by rfl) ?_; (try simp only [Act.put, List.setIfInBounds_toArray, List.set_cons_zero, List.set_cons_succ]); (try refine eagerOpen rfl ?_)) | (refine wpEager_off (by rfl) ?_; (try simp only [Act.put, List.setIfInBounds_toArray, List.set_cons_zero, List.set_cons_succ]); (try refine eagerOpen rfl ?_))))
          refine eagerEnd ?_
          have hq1 := HQ.out.next hy1
          have hz1 := Below.keepOld hy1 HZX.out
          have hl1 := HLOW.out.trans (hy1.mono HLOW.out.size)
          clear HQ HQ2 HZX HLOW HRM HLA hy0 hy1 HE1 HE2
          have HQ := Lib.hid hq1
          have HZX := Lib.hid hz1
          have HLOW := Lib.hid hl1
          clear hq1 hz1 hl1
          go_upto_region 8 with fail
          skip
          -- the result: the disk of the first box, an answer
          go_wp2_with (first
            | refine wpList_load_row rfl 37 _ rfl w.heap.size rfl 37 (rdA ts d) (0, 0) _ HQ.out.row Tryz.underlying37 rfl (infoRD _ (rdA_size HQ.out.n3 HQ.out.m3)) ?_
            | refine wpList_store_row rfl 37 _ _ rfl (w.heap.size + 2) (rdA ts d) rfl rfl 37 zD HZX.out (infoRD _ (rdA_size HQ.out.n3 HQ.out.m3)) (by rw [rdA_size HQ.out.n3 HQ.out.m3]; rfl) (rdA_one HQ.out.n3 HQ.out.m3) ?_)
          have HS := Lib.hid (setRow_heap _ _ _ (rdA ts d) _ _ HZX.out)
          refine bodyPost_ret (results_cell_tmp2 rfl _ _ _ _ _ _ _ rfl HS.out Tryz.underlying37 rfl (infoRD _ (rdA_size HQ.out.n3 HQ.out.m3))) rfl ?_
          exact ⟨ts, rfl, HQ.out.done HZX.out (by omega), below_setRow HLOW.out (by omega) _⟩
        · have HSS := Lib.hid (HE2.out hr)
          have hd1 : decide ((d.room : Int) < (usedL DN.fs : Int)) = false := decide_eq_false (by omega)
          have hd2 : decide (d.room < usedL DN.fs) = false := decide_eq_false hr
          repeat (first
            | (first | (apply wpEager_take; (· rfl); (· (intro w' hb'; go_simp; try with_reducible rfl)); (try simp only [Act.put, List.setIfInBounds_toArray, List.set_cons_zero, List.set_cons_succ]); (try refine eagerOpen rfl ?_)) | (refine wpEager_skip (by rfl) ?_; (try simp only [Act.put, List.setIfInBounds_toArray, List.set_cons_zero, List.set_cons_succ]); (try refine eagerOpen rfl ?_)) | (refine wpEager_off (by rfl) ?_; (try simp only [Act.put, List.setIfInBounds_toArray, List.set_cons_zero, List.set_cons_succ]); (try refine eagerOpen rfl ?_))))
          refine eagerEnd ?_
          have hq1 := HQ2.out.next hy1
          have hz1 := Below.keepOld hy1 HZX.out
          have hl1 := HLOW.out.trans (hy1.mono HLOW.out.size)
          clear HQ HQ2 HZX HLOW HRM HLA hy0 hy1 HE1 HE2 hr
          have HQ2 := Lib.hid hq1
          have HZX := Lib.hid hz1
          have HLOW := Lib.hid hl1
          clear hq1 hz1 hl1
          have HBU := Lib.hid (rburn_any TN DN y1 HQ2.out.n3 HQ2.out.m3 HQ2.out.fuse1)
          go_upto_region 9 with fail
          go_wp2_with (refine wpList_load_row rfl 37 _ rfl w3.heap.size rfl 37 (rdA TN DN) (0, 0) _ HQ2.out.row Tryz.underlying37 rfl (infoRD _ (rdA_size HQ2.out.n3 HQ2.out.m3)) ?_)
          refine HBU.out.mono ?_
          rintro e w8 ⟨rfl, hb8⟩
          have hq3 := HQ2.out.next hb8
          obtain ⟨hq4, hk4⟩ := hq3.burn
          obtain ⟨s1, s2⟩ := HSS.out
          rw [← s1] at s2 hq4 hk4 ⊢
          have HS2 := Lib.hid s2
          clear s1 s2 HSS
          have HQ3 := Lib.hid hq3
          have HD3 : Hid (DX.fs.length = 3) := hq4.m3
          have hz4 : (w8.setRow w3.heap.size (rdA TN DX)).heap[w.heap.size + 2]? = some (.cells zD 37 (0, 0)) := by rw [setRow_other _ _ _ _ (by omega)]; exact Below.keepOld hb8 HZX.out
          have HZ5 := Lib.hid hz4
          have HL5 : Hid (Below w.heap.size w (w8.setRow w3.heap.size (rdA TN DX))) := below_setRow (HLOW.out.trans (hb8.mono HLOW.out.size)) (by omega) _
          have HQ := Lib.hid hq4
          clear HQ2 HZX HLOW HBU hb8 hq3 hq4 hk4 hz4
          go_upto_region 10 with (refine wpList_store_row rfl 37 _ _ rfl w3.heap.size (rdA TN DX) rfl rfl 37 (rdA TN DN) HQ3.out.row (infoRD _ (rdA_size HQ3.out.n3 HD3.out)) (by rw [rdA_size HQ3.out.n3 HD3.out, rdA_size HQ3.out.n3 HQ3.out.m3]) (rdA_one HQ3.out.n3 HD3.out) ?_)
          try simp only [Act.put]
          clear HQ3
          generalize w8.setRow w3.heap.size (rdA TN DX) = w9 at *
          have HZX := HZ5
          have HLOW := HL5
          clear HZ5 HL5
          have HAN : Hid ((if DX.down = true then (18 : Int) else 0) = EX) := HS2.out.symm
          clear HS2 hd1 hd2
          skip
          -- 'return d, answer(d)': region 10 of world w9, disk DX of TN
          have HLA : Hid (∀ w', Below w9.heap.size w9 w' → w'.rangeAt w3.heap.size 0 (rdA TN DX).toList) := fun w' hb j v hv => by rw [cell_of_row _ _ _ _ _ _ (Below.keepOld hb HQ.out.row), ← Array.getElem?_toList, Nat.zero_add]; exact hv
          go_upto_region 10 with fail
          refine wp_region_eager_t (Below w9.heap.size w9) [0, 1] [(0, true), (1, true), (2, false)] [3, 4] (by kernel_rfl) (by kernel_rfl) ?_ (eagerTOpen rfl ?_)
          · exact below_drew1 _ _
          have hy0 : Below w9.heap.size w9 w9.drew := below_drew1 _ _
          repeat (first
            | ((with_reducible refine eagerTLoadAt 8 ?_); refine wpEagerT_load (by rfl) 37 _ rfl w3.heap.size 0 rfl (rdA TN DX) _ (fun w' hb => HLA.out w' hb) Tryz.underlying37 rfl (infoRD _ (rdA_size HQ.out.n3 HQ.out.m3)) ?_; (try simp only [Act.put, List.setIfInBounds_toArray, List.set_cons_zero, List.set_cons_succ]); (try refine eagerTOpen rfl ?_))
            | (first | (apply wpEagerT_take; (· rfl); (· (intro w' hb'; go_simp; try with_reducible rfl)); (try simp only [Act.put, List.setIfInBounds_toArray, List.set_cons_zero, List.set_cons_succ]); (try refine eagerTOpen rfl ?_)) | (refine wpEagerT_skip (by rfl) ?_; (try simp only [Act.put, List.setIfInBounds_toArray, List.set_cons_zero, List.set_cons_succ]); (try refine eagerTOpen rfl ?_))))
          (refine wpEagerT_op (by rfl) (fun K hK => ?_); go_simp; (refine (ranswer2 TN DX EX HAN.out _ HQ.out.n3 HQ.out.m3).mono ?_; rintro e y1 ⟨rfl, hb⟩; have hy1 := hy0.trans hb; clear hb); refine Shut.out hK _ _ (by assumption) ?_; clear hK K; (try simp only [Act.put, List.setIfInBounds_toArray, List.set_cons_zero, List.set_cons_succ]); (try refine eagerTOpen rfl ?_))
          refine eagerTEnd (tail2 rfl rfl ?_)
          have hq1 := HQ.out.next hy1
          have hz1 := Below.keepOld hy1 HZX.out
          have hl1 := HLOW.out.trans (hy1.mono HLOW.out.size)
          clear HQ HZX HLOW HLA hy0 hy1
          have HQ := Lib.hid hq1
          have HZX := Lib.hid hz1
          have HLOW := Lib.hid hl1
          clear hq1 hz1 hl1
          go_wp2_with (refine wpList_store_row rfl 37 _ _ rfl (w.heap.size + 2) (rdA TN DX) rfl rfl 37 zD HZX.out (infoRD _ (rdA_size HQ.out.n3 HQ.out.m3)) (by rw [rdA_size HQ.out.n3 HQ.out.m3]; rfl) (rdA_one HQ.out.n3 HQ.out.m3) ?_)
          refine noPanic_end ?_
          go_wp2_with fail
          have HS := Lib.hid (setRow_heap _ _ _ (rdA TN DX) _ _ HZX.out)
          refine bodyPost_ret (results_cell_tmp2 rfl _ _ _ _ _ _ _ rfl HS.out Tryz.underlying37 rfl (infoRD _ (rdA_size HQ.out.n3 HQ.out.m3))) rfl ?_
          exact ⟨TN, rfl, HQ.out.done HZX.out (by omega), below_setRow HLOW.out (by omega) _⟩
    · refine tree_one rfl (by rfl) (fun K hK => oper_of_list rfl ?_)
      refine wpList_buildOne rfl 32 70 _ rfl (#[.bool false, .int .i64 0, .slice q B.length k] : Array Value) rfl 3 Tryz.underlying32 (by kernel_rfl) (by omega) (by omega) rfl ?_
      have r1 := heap_alloc_last wd (.cells (#[.bool false, .int .i64 0, .slice q B.length k] : Array Value) 70)
      have hz1 : wd.heap.size ≤ (wd.alloc (.cells (#[.bool false, .int .i64 0, .slice q B.length k] : Array Value) 70)).heap.size := hb5.size
      refine only_end (Shut.out hK _ _ (HSD.out.trans (hb5.mono HSD.out.size)) ?_)
      clear hK K
      try simp only [Act.put, List.setIfInBounds_toArray, List.set_cons_zero, List.set_cons_succ]
      generalize wd.alloc (.cells (#[.bool false, .int .i64 0, .slice q B.length k] : Array Value) 70) = wa at *
      refine tree_one rfl (by rfl) (fun K hK => ?_)
      go_simp
      have hb2 := hb5.alloc hz1 (.cells #[] 70)
      refine Shut.out hK _ _ (HSD.out.trans (hb2.mono HSD.out.size)) ?_
      clear hK K
      try simp only [Act.put, List.setIfInBounds_toArray, List.set_cons_zero, List.set_cons_succ]
      have o2 : (wa.alloc (.cells #[] 70)).ownsRow wd.heap.size 70 3 (.slice (some ⟨wa.heap.size, 0, none⟩) 0 0) 0 [] := own_made0 wa _ _ _ _ rfl hz1
      have r2 := block_old (.cells #[] 70) r1
      have hne : wd.heap.size ≠ wa.heap.size := fun e => by have := (Array.getElem?_eq_some_iff.1 r1).1; omega
      have hz2 : wd.heap.size ≤ (wa.alloc (.cells #[] 70)).heap.size := hb2.size
      generalize wa.alloc (.cells #[] 70) = wc at *
      refine tree_one rfl (by rfl) (fun K hK => oper_of_list rfl ?_)
      refine wpList_append_nx rfl _ _ 32 rfl (base := wd.heap.size) Tryz.underlying32 infoSteps (by rfl) (by omega) rfl o2 rfl (hSL.out _ hb2) HON.out HK1.out hz2 ?_
      intro p2 c2 w6 o6 hg2 hnx2 _
      rw [Nat.zero_add f.steps.length] at *
      rw [List.nil_append] at o6
      have hb6 : Below wd.heap.size wd w6 := hb2.grown hg2 hz2 (fun i hi => (o2.lt i hi).1)
      have r6 : w6.heap[wd.heap.size]? = some (.cells (#[.bool false, .int .i64 0, .slice q B.length k] : Array Value) 70 (0, 0)) := by
        rw [hg2.block _ (Array.getElem?_eq_some_iff.1 r2).1 (fun e => hne (by injection e))]
        exact r2
      refine only_end (Shut.out hK _ _ (HSD.out.trans (hb6.mono HSD.out.size)) ?_)
      clear hK K
      try simp only [Act.put, List.setIfInBounds_toArray, List.set_cons_zero, List.set_cons_succ]
      have hz6 : wd.heap.size ≤ w6.heap.size := hb6.size
      refine tree_one rfl (by rfl) (fun K hK => oper_of_list rfl ?_)
      refine wpList_append_nx rfl _ _ 32 rfl (base := wd.heap.size) Tryz.underlying32 infoSteps (by rfl) (by omega) rfl o6 rfl (row_sl r6 3 rfl) HON2.out HK3.out hz6 ?_
      intro p9 c9 wf o9 hg9 hnx9 _
      have hbf : Below wd.heap.size wd wf := hb6.grown hg9 hz6 (fun i hi => (o6.lt i hi).1)
      refine only_end (Shut.out hK _ _ (HSD.out.trans (hbf.mono HSD.out.size)) ?_)
      clear hK K
      try simp only [Act.put, List.setIfInBounds_toArray, List.set_cons_zero, List.set_cons_succ]
      skip
      -- wf: both lists are joined (o9); the step is stored, the used is weighed
      iterate 2 ((apply tree_take; (· rfl); (· rfl); (· (intro w' hb'; go_simp; try with_reducible rfl)); try simp only [Act.put, List.setIfInBounds_toArray, List.set_cons_zero, List.set_cons_succ]))
      have hcf := (rdA_file HQ2.out.n3 HQ2.out.m3 i HT.out HF.out).2
      have hq6 := HQ2.out.next hbf
      have hc14 : wf.cell? ⟨w3.heap.size, i * 2 + 1, none⟩ = some (.slice t.sp f.steps.length t.sc) := by rw [cell_of_row _ _ _ _ _ _ hq6.row]; exact hcf
      have hfz14 : wf.frozen? ⟨w3.heap.size, i * 2 + 1, none⟩ = false := frozen_of_row _ _ _ _ _ hq6.row
      have hsn : Rb w.heap.size wf ⟨t.kp, t.kc, p9, c9⟩ (f.take (St.put B)) := Rb.snoc HRB.out HSR.out rfl HTK.out (by have := HFEW.out; omega) (HLOW.out.trans (hbf.mono HLOW.out.size)) o9
      obtain ⟨hq7, hk7⟩ := hq6.steps i hi HT.out HF.out p9 c9 (f.take (St.put B)) rfl hsn HNT.out HFU.out
      rw [take_len] at hq7 hk7
      have hst7 : Below w3.heap.size w3 (wf.setCell ⟨w3.heap.size, i * 2 + 1, none⟩ (.slice p9 (f.steps.length + 1) c9)) := (HSD.out.trans (hbf.mono HSD.out.size)).trans (Turns.below ((Turns.refl (fun k => k = w3.heap.size) wf).setCell (p := ⟨w3.heap.size, i * 2 + 1, none⟩) (fun _ => rfl) _) (by have := hbf.size; omega) (fun _ e => by omega))
      refine tree_one rfl (by rfl) (fun K hK => ?_)
      go_simp
      refine Shut.out hK _ _ hst7 ?_
      clear hK K
      try simp only [Act.put, List.setIfInBounds_toArray, List.set_cons_zero, List.set_cons_succ]
      refine tree_nil ?_
      have hno : ∀ k : Nat, k < w3.heap.size → (wf.setCell ⟨w3.heap.size, i * 2 + 1, none⟩ (.slice p9 (f.steps.length + 1) c9)).heap[k]? = wd.heap[k]? := fun k hk => by rw [hst7.block k hk, HSD.out.block k hk]
      have hq8 := (HQ1.out.next hbf).beside hk7 (by rw [hno _ (by omega)]; exact ((hbf.block _ (by omega)).symm))
      have hz8 : (wf.setCell ⟨w3.heap.size, i * 2 + 1, none⟩ (.slice p9 (f.steps.length + 1) c9)).heap[w.heap.size + 2]? = some (.cells zD 37 (0, 0)) := by rw [hno _ (by omega)]; exact HZX.out
      have hl8 := (HLOW.out.trans (hbf.mono HLOW.out.size)).trans (Turns.below ((Turns.refl (fun k => k = w3.heap.size) wf).setCell (p := ⟨w3.heap.size, i * 2 + 1, none⟩) (fun _ => rfl) (.slice p9 (f.steps.length + 1) c9)) (by have := hbf.size; omega) (fun _ e => by omega))
      have hw8 : w3.heap.size < (wf.setCell ⟨w3.heap.size, i * 2 + 1, none⟩ (.slice p9 (f.steps.length + 1) c9)).heap.size := (Array.getElem?_eq_some_iff.1 hq7.row).1
      clear hc14 hfz14 hcf hsn hq6 hno hst7 hk7 hg9 hnx9 o9 HQ1 HQ2 HZX HLOW HSD hSL hkc hkM
      generalize wf.setCell ⟨w3.heap.size, i * 2 + 1, none⟩ (.slice p9 (f.steps.length + 1) c9) = w7 at *
      have HQ := Lib.hid hq8
      have HQ2 := Lib.hid hq7
      have HZX := Lib.hid hz8
      have HLOW := Lib.hid hl8
      clear hq8 hq7 hz8 hl8
      have hus := HUT.out
      obtain ⟨DN, hDN⟩ : ∃ DN, setF d i (f.take (St.put B)) = DN := ⟨_, rfl⟩
      obtain ⟨TN, hTN⟩ : ∃ TN, ts.set i ⟨t.kp, t.kc, p9, c9⟩ = TN := ⟨_, rfl⟩
      have hq2 := HQ2.out
      rw [hDN, hTN] at hq2
      have hE1 := @doE_full d i f (St.put B) hdn
      have hE2 := @doE_ok d i f (St.put B) hdn
      rw [hDN] at hus hE2
      rw [← hus, HDX.out, HEX.out] at hE1 hE2
      generalize usedL d.fs - f.need + max f.need ((St.put B).size f.now.length) = UN at hus
      have HE1 := Lib.hid hE1
      have HE2 := Lib.hid hE2
      have hgs : Hid (w.heap.size + 2 < w3.heap.size) := hws
      clear hE1 hE2 HQ2 HUT HTK HNT HFU HF HT HRF HRS HST HSR HRB HNB HFEW HRO HDX HEX hus hDN hTN HON HON2 HK1 HK2 HK3
      have HQ2 := Lib.hid hq2
      clear hq2
      obtain ⟨hc6, _, _, _⟩ := HQ.out.cells
      have HRM : Hid (∀ w', Below w7.heap.size w7 w' → w'.cell? ⟨w.heap.size, 6, none⟩ = some (.int .i64 (d.room : Int))) := fun w' hb => (HQ.out.next hb).cells.1
      have HLA : Hid (∀ w', Below w7.heap.size w7 w' → w'.rangeAt w3.heap.size 0 (rdA TN DN).toList) := fun w' hb => row_rangeR (Below.keepOld hb HQ2.out.row)
      clear hc6
      go_upto_region 7 with fail
      refine wp_region_eager [(0, true), (2, true), (3, true), (1, false), (4, true)] (by kernel_rfl) (by kernel_rfl) (eagerOpen rfl ?_)
      have hy0 : Below w7.heap.size w7 w7.drew := below_drew1 _ _
      repeat (first
        | ((with_reducible refine eagerLoadAt 8 ?_); refine wpEager_load (by rfl) 37 _ rfl w3.heap.size 0 rfl (rdA TN DN) _ (fun w' hb => HLA.out w' hb) Tryz.underlying37 rfl (infoRD _ (rdA_size HQ2.out.n3 HQ2.out.m3)) ?_; (try simp only [Act.put, List.setIfInBounds_toArray, List.set_cons_zero, List.set_cons_succ]); (try refine eagerOpen rfl ?_))
        | (first | (apply wpEager_take; (· rfl); (· (intro w' hb'; go_simp; try with_reducible rfl)); (try simp only [Act.put, List.setIfInBounds_toArray, List.set_cons_zero, List.set_cons_succ]); (try refine eagerOpen rfl ?_)) | (refine wpEager_skip (by rfl) ?_; (try simp only [Act.put, List.setIfInBounds_toArray, List.set_cons_zero, List.set_cons_succ]); (try refine eagerOpen rfl ?_)) | (refine wpEager_off (by rfl) ?_; (try simp only [Act.put, List.setIfInBounds_toArray, List.set_cons_zero, List.set_cons_succ]); (try refine eagerOpen rfl ?_)))
        | (apply wpEager_take; (· rfl); (· (intro w' hb'; have hk' := (fun w' hb => HRM.out w' hb) w' hb'; go_split_ands; go_simp; try with_reducible rfl)); (try simp only [Act.put, List.setIfInBounds_toArray, List.set_cons_zero, List.set_cons_succ]); (try refine eagerOpen rfl ?_)))
      (refine wpEager_op (by rfl) (fun K hK => ?_); go_simp; (refine (rused_any TN DN _ (HQ2.out.next hy0).at).mono ?_; rintro e y1 ⟨rfl, hb⟩; have hy1 := hy0.trans hb; clear hb); refine Shut.out hK _ _ (by assumption) ?_; clear hK K; (try simp only [Act.put, List.setIfInBounds_toArray, List.set_cons_zero, List.set_cons_succ]); (try refine eagerOpen rfl ?_))
      by_cases hr : d.room < usedL DN.fs
      · obtain ⟨s1, s2⟩ := HE1.out hr
        subst DX EX
        have hd1 : decide ((d.room : Int) < (usedL DN.fs : Int)) = true := decide_eq_true (by omega)
        have hd2 : decide (d.room < usedL DN.fs) = true := decide_eq_true hr
        repeat (first
          | (first | (apply wpEager_take; (· rfl); (· (intro w' hb'; go_simp; try with_reducible rfl)); (try simp only [Act.put, List.setIfInBounds_toArray, List.set_cons_zero, List.set_cons_succ]); (try refine eagerOpen rfl ?_)) | (refine wpEager_skip (by rfl) ?_; (try simp only [Act.put, List.setIfInBounds_toArray, List.set_cons_zero, List.set_cons_succ]); (try refine eagerOpen rfl ?_)) | (refine wpEager_off (by rfl) ?_; (try simp only [Act.put, List.setIfInBounds_toArray, List.set_cons_zero, List.set_cons_succ]); (try refine eagerOpen rfl ?_))))
        refine eagerEnd ?_
        have hq1 := HQ.out.next hy1
        have hz1 := Below.keepOld hy1 HZX.out
        have hl1 := HLOW.out.trans (hy1.mono HLOW.out.size)
        clear HQ HQ2 HZX HLOW HRM HLA hy0 hy1 HE1 HE2
        have HQ := Lib.hid hq1
        have HZX := Lib.hid hz1
        have HLOW := Lib.hid hl1
        clear hq1 hz1 hl1
        go_upto_region 8 with fail
        skip
        -- the result: the disk of the first box, an answer
        go_wp2_with (first
          | refine wpList_load_row rfl 37 _ rfl w.heap.size rfl 37 (rdA ts d) (0, 0) _ HQ.out.row Tryz.underlying37 rfl (infoRD _ (rdA_size HQ.out.n3 HQ.out.m3)) ?_
          | refine wpList_store_row rfl 37 _ _ rfl (w.heap.size + 2) (rdA ts d) rfl rfl 37 zD HZX.out (infoRD _ (rdA_size HQ.out.n3 HQ.out.m3)) (by rw [rdA_size HQ.out.n3 HQ.out.m3]; rfl) (rdA_one HQ.out.n3 HQ.out.m3) ?_)
        have HS := Lib.hid (setRow_heap _ _ _ (rdA ts d) _ _ HZX.out)
        refine bodyPost_ret (results_cell_tmp2 rfl _ _ _ _ _ _ _ rfl HS.out Tryz.underlying37 rfl (infoRD _ (rdA_size HQ.out.n3 HQ.out.m3))) rfl ?_
        exact ⟨ts, rfl, HQ.out.done HZX.out (by omega), below_setRow HLOW.out (by omega) _⟩
      · have HSS := Lib.hid (HE2.out hr)
        have hd1 : decide ((d.room : Int) < (usedL DN.fs : Int)) = false := decide_eq_false (by omega)
        have hd2 : decide (d.room < usedL DN.fs) = false := decide_eq_false hr
        repeat (first
          | (first | (apply wpEager_take; (· rfl); (· (intro w' hb'; go_simp; try with_reducible rfl)); (try simp only [Act.put, List.setIfInBounds_toArray, List.set_cons_zero, List.set_cons_succ]); (try refine eagerOpen rfl ?_)) | (refine wpEager_skip (by rfl) ?_; (try simp only [Act.put, List.setIfInBounds_toArray, List.set_cons_zero, List.set_cons_succ]); (try refine eagerOpen rfl ?_)) | (refine wpEager_off (by rfl) ?_; (try simp only [Act.put, List.setIfInBounds_toArray, List.set_cons_zero, List.set_cons_succ]); (try refine eagerOpen rfl ?_))))
        refine eagerEnd ?_
        have hq1 := HQ2.out.next hy1
        have hz1 := Below.keepOld hy1 HZX.out
        have hl1 := HLOW.out.trans (hy1.mono HLOW.out.size)
        clear HQ HQ2 HZX HLOW HRM HLA hy0 hy1 HE1 HE2 hr
        have HQ2 := Lib.hid hq1
        have HZX := Lib.hid hz1
        have HLOW := Lib.hid hl1
        clear hq1 hz1 hl1
        have HBU := Lib.hid (rburn_any TN DN y1 HQ2.out.n3 HQ2.out.m3 HQ2.out.fuse1)
        go_upto_region 9 with fail
        go_wp2_with (refine wpList_load_row rfl 37 _ rfl w3.heap.size rfl 37 (rdA TN DN) (0, 0) _ HQ2.out.row Tryz.underlying37 rfl (infoRD _ (rdA_size HQ2.out.n3 HQ2.out.m3)) ?_)
        refine HBU.out.mono ?_
        rintro e w8 ⟨rfl, hb8⟩
        have hq3 := HQ2.out.next hb8
        obtain ⟨hq4, hk4⟩ := hq3.burn
        obtain ⟨s1, s2⟩ := HSS.out
        rw [← s1] at s2 hq4 hk4 ⊢
        have HS2 := Lib.hid s2
        clear s1 s2 HSS
        have HQ3 := Lib.hid hq3
        have HD3 : Hid (DX.fs.length = 3) := hq4.m3
        have hz4 : (w8.setRow w3.heap.size (rdA TN DX)).heap[w.heap.size + 2]? = some (.cells zD 37 (0, 0)) := by rw [setRow_other _ _ _ _ (by omega)]; exact Below.keepOld hb8 HZX.out
        have HZ5 := Lib.hid hz4
        have HL5 : Hid (Below w.heap.size w (w8.setRow w3.heap.size (rdA TN DX))) := below_setRow (HLOW.out.trans (hb8.mono HLOW.out.size)) (by omega) _
        have HQ := Lib.hid hq4
        clear HQ2 HZX HLOW HBU hb8 hq3 hq4 hk4 hz4
        go_upto_region 10 with (refine wpList_store_row rfl 37 _ _ rfl w3.heap.size (rdA TN DX) rfl rfl 37 (rdA TN DN) HQ3.out.row (infoRD _ (rdA_size HQ3.out.n3 HD3.out)) (by rw [rdA_size HQ3.out.n3 HD3.out, rdA_size HQ3.out.n3 HQ3.out.m3]) (rdA_one HQ3.out.n3 HD3.out) ?_)
        try simp only [Act.put]
        clear HQ3
        generalize w8.setRow w3.heap.size (rdA TN DX) = w9 at *
        have HZX := HZ5
        have HLOW := HL5
        clear HZ5 HL5
        have HAN : Hid ((if DX.down = true then (18 : Int) else 0) = EX) := HS2.out.symm
        clear HS2 hd1 hd2
        skip
        -- 'return d, answer(d)': region 10 of world w9, disk DX of TN
        have HLA : Hid (∀ w', Below w9.heap.size w9 w' → w'.rangeAt w3.heap.size 0 (rdA TN DX).toList) := fun w' hb j v hv => by rw [cell_of_row _ _ _ _ _ _ (Below.keepOld hb HQ.out.row), ← Array.getElem?_toList, Nat.zero_add]; exact hv
        go_upto_region 10 with fail
        refine wp_region_eager_t (Below w9.heap.size w9) [0, 1] [(0, true), (1, true), (2, false)] [3, 4] (by kernel_rfl) (by kernel_rfl) ?_ (eagerTOpen rfl ?_)
        · exact below_drew1 _ _
        have hy0 : Below w9.heap.size w9 w9.drew := below_drew1 _ _
        repeat (first
          | ((with_reducible refine eagerTLoadAt 8 ?_); refine wpEagerT_load (by rfl) 37 _ rfl w3.heap.size 0 rfl (rdA TN DX) _ (fun w' hb => HLA.out w' hb) Tryz.underlying37 rfl (infoRD _ (rdA_size HQ.out.n3 HQ.out.m3)) ?_; (try simp only [Act.put, List.setIfInBounds_toArray, List.set_cons_zero, List.set_cons_succ]); (try refine eagerTOpen rfl ?_))
          | (first | (apply wpEagerT_take; (· rfl); (· (intro w' hb'; go_simp; try with_reducible rfl)); (try simp only [Act.put, List.setIfInBounds_toArray, List.set_cons_zero, List.set_cons_succ]); (try refine eagerTOpen rfl ?_)) | (refine wpEagerT_skip (by rfl) ?_; (try simp only [Act.put, List.setIfInBounds_toArray, List.set_cons_zero, List.set_cons_succ]); (try refine eagerTOpen rfl ?_))))
        (refine wpEagerT_op (by rfl) (fun K hK => ?_); go_simp; (refine (ranswer2 TN DX EX HAN.out _ HQ.out.n3 HQ.out.m3).mono ?_; rintro e y1 ⟨rfl, hb⟩; have hy1 := hy0.trans hb; clear hb); refine Shut.out hK _ _ (by assumption) ?_; clear hK K; (try simp only [Act.put, List.setIfInBounds_toArray, List.set_cons_zero, List.set_cons_succ]); (try refine eagerTOpen rfl ?_))
        refine eagerTEnd (tail2 rfl rfl ?_)
        have hq1 := HQ.out.next hy1
        have hz1 := Below.keepOld hy1 HZX.out
        have hl1 := HLOW.out.trans (hy1.mono HLOW.out.size)
        clear HQ HZX HLOW HLA hy0 hy1
        have HQ := Lib.hid hq1
        have HZX := Lib.hid hz1
        have HLOW := Lib.hid hl1
        clear hq1 hz1 hl1
        go_wp2_with (refine wpList_store_row rfl 37 _ _ rfl (w.heap.size + 2) (rdA TN DX) rfl rfl 37 zD HZX.out (infoRD _ (rdA_size HQ.out.n3 HQ.out.m3)) (by rw [rdA_size HQ.out.n3 HQ.out.m3]; rfl) (rdA_one HQ.out.n3 HQ.out.m3) ?_)
        refine noPanic_end ?_
        go_wp2_with fail
        have HS := Lib.hid (setRow_heap _ _ _ (rdA TN DX) _ _ HZX.out)
        refine bodyPost_ret (results_cell_tmp2 rfl _ _ _ _ _ _ _ rfl HS.out Tryz.underlying37 rfl (infoRD _ (rdA_size HQ.out.n3 HQ.out.m3))) rfl ?_
        exact ⟨TN, rfl, HQ.out.done HZX.out (by omega), below_setRow HLOW.out (by omega) _⟩
set_option maxRecDepth 100000 in
set_option maxHeartbeats 6400000 in
theorem rdo_cut (ts : List RF) (d : DD) (i : Nat) (hi : i < 3) (f : FD) (hf : d.fs[i]? = some f) (m : Nat) (hm : m ≤ f.now.length) (w : World) (h : RDB w ts d) (hur : usedL d.fs ≤ d.room) (hfew : f.steps.length + 1 ≤ 2199023255552) :
    Calls Tryz.prog 18 #[.agg (rdA ts d), .int .i64 (i : Int), .agg #[.bool true, .int .i64 (m : Int), .slice none 0 0]] w (ROut (doD d i f (.cut m)) (doE d i f (.cut m)) w) := by
  have hs : (St.cut m).ok f.now.length := hm
  have hu2 : (St.cut m).units ≤ 60000 := by show 1 ≤ 60000; omega
  have hsr : ∀ y, KR 0 w y → StR y [.bool true, .int .i64 (m : Int), .slice none 0 0] (.cut m) := fun _ _ => rfl
  have hsz0 : (St.cut m).size f.now.length ≤ f.now.length + 60000 := by show m ≤ _; omega
  -- region 1 of a step that may be done: RV its cells; then on
  have hz := zeroD
  obtain ⟨q1, q2, q3, q4, q5⟩ := threes w (.cells (rdA ts d) 37) (.cells #[.bool true, .int .i64 (m : Int), .slice none 0 0] 70) (.cells zD 37)
  have HQ : Hid (RQ w.heap.size w.heap.size ts d (((w.alloc (.cells (rdA ts d) 37)).alloc (.cells #[.bool true, .int .i64 (m : Int), .slice none 0 0] 70)).alloc (.cells zD 37))) := RQ.of h q5 (Nat.le_refl _) q1
  have HSB := Lib.hid q2
  have HZX := Lib.hid q3
  have HSZ := Lib.hid q4
  have HLOW := Lib.hid q5
  clear q1 q2 q3 q4 q5
  have hi3 : i < d.fs.length := by rw [h.m3]; exact hi
  have hfe : d.fs[i] = f := by rw [List.getElem?_eq_getElem hi3] at hf; exact Option.some.inj hf
  have hti : i < ts.length := by rw [h.n3]; exact hi
  have ht : ts[i]? = some (ts[i]'hti) := List.getElem?_eq_getElem hti
  generalize ts[i]'hti = t at *
  obtain ⟨hrf, hnd⟩ := h.each i t f ht hf
  obtain ⟨rows, hrw⟩ := hrf
  have hrf := (hrw w (KR.refl _ _)).at
  have hrs := (hrw w (KR.refl _ _)).rs
  have hst := (hrw w (KR.refl _ _)).st
  have HRB := Lib.hid hrw
  have hnb : f.need ≤ 1000000 := by have h1 := usedL_mem hi3; have h2 := h.used; rw [hfe] at h1; omega
  have HUT := Lib.hid (used_take (s := (St.cut m)) hi3 hfe)
  have hnl := hrf.ok.le
  have HTK := Lib.hid (FD.take_ok hrf.ok hs (by omega))
  have HNT := Lib.hid (nd_take hnd hrf.ok hs)
  have hub := h.used
  have hr65 := h.room1.2
  have HFU : Hid (usedL (setF d i (f.take (St.cut m))).fs ≤ 1000000) := by
    show _ ≤ _
    rw [HUT.out]
    have h3 := usedL_mem hi3
    rw [hfe] at h3
    have h4 : (St.cut m).size f.now.length ≤ f.now.length + 60000 := hsz0
    omega
  have HF := Lib.hid hf
  have HT := Lib.hid ht
  have HRF := Lib.hid hrf
  have HRS := Lib.hid hrs
  have HST := Lib.hid hst
  have HSR := Lib.hid hsr
  have HNB := Lib.hid hnb
  have HFEW := Lib.hid hfew
  have d1 : decide ((i : Int) < 0) = false := decide_eq_false (by omega)
  have d2 : decide ((2 : Int) < (i : Int)) = false := decide_eq_false (by omega)
  have d3 : decide (2 < i) = false := decide_eq_false (by omega)
  have HRO := Lib.hid hur
  clear hf hfe hnd hrs hst hnb hub hrf ht hsr hfew hrw
  have hi3i : (i : Int) < 3 := by omega
  have d4 : decide ((m : Int) < 0) = false := decide_eq_false (by omega)
  have d5 : decide ((f.now.length : Int) < (m : Int)) = false := decide_eq_false (by omega)
  have d6 : decide (f.now.length < m) = false := decide_eq_false (by omega)
  clear h hur hu2 hsz0 hnl hr65 hi3 hti hm
  obtain ⟨DX, hDX⟩ : ∃ DX, doD d i f (.cut m) = DX := ⟨_, rfl⟩
  obtain ⟨EX, hEX⟩ : ∃ EX, doE d i f (.cut m) = EX := ⟨_, rfl⟩
  rw [hDX, hEX]
  have HDX := Lib.hid hDX
  have HEX := Lib.hid hEX
  clear hDX hEX hs
  go_enter Tryz.func18, Tryz.ntmps18
  go_upto_region 1 with fail
  generalize ((w.alloc (.cells (rdA ts d) 37)).alloc (.cells #[.bool true, .int .i64 (m : Int), .slice none 0 0] 70)).alloc (.cells zD 37) = w2 at *
  have HC0 : Hid (∀ w', Below w2.heap.size w2 w' → w'.cell? ⟨w.heap.size + 1, 0, none⟩ = some (.bool true)) := fun w' hb => by rw [cell_of_row _ _ _ _ _ _ (Below.keepOld hb HSB.out)]; rfl
  have HC1 : Hid (∀ w', Below w2.heap.size w2 w' → w'.cell? ⟨w.heap.size + 1, 1, none⟩ = some (.int .i64 (m : Int))) := fun w' hb => by rw [cell_of_row _ _ _ _ _ _ (Below.keepOld hb HSB.out)]; rfl
  skip
  -- region 1 of a cut: Holds is asked. LV: the length of what it holds
  have HLF : Hid (∀ w', Below w2.heap.size w2 w' → w'.rangeAt w.heap.size (i * 2) (fA t f).toList) := fun w' hb => rd_range HQ.out.n3 HQ.out.m3 (Below.keepOld hb HQ.out.row) i HT.out HF.out
  have HRW : Hid (∀ w', Below w2.heap.size w2 w' → RFAt w' t f) := fun w' hb => HRF.out.below (HLOW.out.trans (hb.mono HLOW.out.size))
  refine wp_region_eager [(0, true), (1, true), (2, true), (3, true), (4, true), (5, true), (6, true), (7, true), (8, true), (9, true), (10, true), (11, true), (12, true), (13, true), (14, true), (15, true), (16, true), (17, true), (18, true), (19, true), (20, false), (21, true), (22, true), (23, true), (24, true), (25, true)] (by kernel_rfl) (by kernel_rfl) (eagerOpen rfl ?_)
  have hy0 : Below w2.heap.size w2 w2.drew := below_drew1 _ _
  repeat (first
    | ((with_reducible refine eagerLoadAt 27 ?_); refine wpEager_load (by rfl) 34 _ rfl w.heap.size (i * 2) rfl (fA t f) _ (fun w' hb => HLF.out w' hb) Tryz.underlying34 rfl (infoFi _ rfl) ?_; (try simp only [Act.put, List.setIfInBounds_toArray, List.set_cons_zero, List.set_cons_succ]); (try refine eagerOpen rfl ?_))
    | (first | (apply wpEager_take; (· rfl); (· (intro w' hb'; go_simp; try with_reducible rfl)); (try simp only [Act.put, List.setIfInBounds_toArray, List.set_cons_zero, List.set_cons_succ]); (try refine eagerOpen rfl ?_)) | (refine wpEager_skip (by rfl) ?_; (try simp only [Act.put, List.setIfInBounds_toArray, List.set_cons_zero, List.set_cons_succ]); (try refine eagerOpen rfl ?_)) | (refine wpEager_off (by rfl) ?_; (try simp only [Act.put, List.setIfInBounds_toArray, List.set_cons_zero, List.set_cons_succ]); (try refine eagerOpen rfl ?_)))
    | (apply wpEager_take; (· rfl); (· (intro w' hb'; have hk' := (fun w' hb => HC0.out w' hb) w' hb'; go_split_ands; go_simp; try with_reducible rfl)); (try simp only [Act.put, List.setIfInBounds_toArray, List.set_cons_zero, List.set_cons_succ]); (try refine eagerOpen rfl ?_))
    | (apply wpEager_take; (· rfl); (· (intro w' hb'; have hk' := (fun w' hb => HC1.out w' hb) w' hb'; go_split_ands; go_simp; try with_reducible rfl)); (try simp only [Act.put, List.setIfInBounds_toArray, List.set_cons_zero, List.set_cons_succ]); (try refine eagerOpen rfl ?_)))
  (refine wpEager_op (by rfl) (fun K hK => ?_); go_simp; (refine (rholds_any t f _ (HRW.out _ hy0) HNB.out).mono ?_; rintro e y1 ⟨ph, ch, rfl, ho, hb⟩; have hyl := hy0.trans hb; clear hb ho); refine Shut.out hK _ _ (by assumption) ?_; clear hK K; (try simp only [Act.put, List.setIfInBounds_toArray, List.set_cons_zero, List.set_cons_succ]); (try refine eagerOpen rfl ?_))
  repeat (first
    | (first | (apply wpEager_take; (· rfl); (· (intro w' hb'; go_simp; try with_reducible rfl)); (try simp only [Act.put, List.setIfInBounds_toArray, List.set_cons_zero, List.set_cons_succ]); (try refine eagerOpen rfl ?_)) | (refine wpEager_skip (by rfl) ?_; (try simp only [Act.put, List.setIfInBounds_toArray, List.set_cons_zero, List.set_cons_succ]); (try refine eagerOpen rfl ?_)) | (refine wpEager_off (by rfl) ?_; (try simp only [Act.put, List.setIfInBounds_toArray, List.set_cons_zero, List.set_cons_succ]); (try refine eagerOpen rfl ?_))))
  refine eagerEnd ?_
  skip
  have hq1 := HQ.out.next hyl
  have hs1 := Below.keepOld hyl HSB.out
  have hz1 := Below.keepOld hyl HZX.out
  have hl1 := HLOW.out.trans (hyl.mono HLOW.out.size)
  clear HQ HSB HZX HLOW HC0 HC1 HSZ
  have HQ := Lib.hid hq1
  have HSB := Lib.hid hs1
  have HZX := Lib.hid hz1
  have HLOW := Lib.hid hl1
  clear hq1 hs1 hz1 hl1 hyl
  clear hy0 HLF HRW
  generalize y1 = w3 at *
  clear d4 d5 d6
  obtain ⟨_, _, hc8, _⟩ := HQ.out.cells
  cases hdn : d.down with
  | true =>
    obtain ⟨s1, s2⟩ := doE_down (i := i) (f := f) (s := .cut m) hdn
    rw [HDX.out] at s1
    rw [HEX.out] at s2
    clear HDX HEX
    subst DX EX
    rw [hdn] at hc8
    clear hdn
    go_upto_region 4 with fail
    clear hc8
    skip
    -- the result: the disk of the first box, an answer
    go_wp2_with (first
      | refine wpList_load_row rfl 37 _ rfl w.heap.size rfl 37 (rdA ts d) (0, 0) _ HQ.out.row Tryz.underlying37 rfl (infoRD _ (rdA_size HQ.out.n3 HQ.out.m3)) ?_
      | refine wpList_store_row rfl 37 _ _ rfl (w.heap.size + 2) (rdA ts d) rfl rfl 37 zD HZX.out (infoRD _ (rdA_size HQ.out.n3 HQ.out.m3)) (by rw [rdA_size HQ.out.n3 HQ.out.m3]; rfl) (rdA_one HQ.out.n3 HQ.out.m3) ?_)
    have HS := Lib.hid (setRow_heap _ _ _ (rdA ts d) _ _ HZX.out)
    refine bodyPost_ret (results_cell_tmp2 rfl _ _ _ _ _ _ _ rfl HS.out Tryz.underlying37 rfl (infoRD _ (rdA_size HQ.out.n3 HQ.out.m3))) rfl ?_
    exact ⟨ts, rfl, HQ.out.done HZX.out (by omega), below_setRow HLOW.out (by omega) _⟩
  | false =>
    rw [hdn] at hc8
    skip
    -- from the step that may be done (region 4 on): w3, HQ, HSB, HZX, HLOW, hc8; (#[.bool true, .int .i64 (m : Int), .slice none 0 0] : Array Value), (St.cut m)
    go_upto_region 6 with (first
      | refine wpList_load_row rfl 37 _ rfl w.heap.size rfl 37 (rdA ts d) (0, 0) _ HQ.out.row Tryz.underlying37 rfl (infoRD _ (rdA_size HQ.out.n3 HQ.out.m3)) ?_
      | refine wpList_store_row rfl 37 _ _ rfl w3.heap.size (rdA ts d) rfl rfl 37 zD (heap_alloc_last _ _) (infoRD _ (rdA_size HQ.out.n3 HQ.out.m3)) (by rw [rdA_size HQ.out.n3 HQ.out.m3]; rfl) (rdA_one HQ.out.n3 HQ.out.m3) ?_)
    try simp only [Act.put]
    clear hc8
    have hws : w.heap.size + 2 < w3.heap.size := (Array.getElem?_eq_some_iff.1 HZX.out).1
    obtain ⟨hq4, hb4⟩ := HQ.out.twin (by omega)
    have hq1 := HQ.out.next hb4
    have hs1 := Below.keepOld hb4 HSB.out
    have hz1 := Below.keepOld hb4 HZX.out
    have hl1 := HLOW.out.trans (hb4.mono HLOW.out.size)
    have hs4 : w3.heap.size < ((w3.alloc (.cells zD 37)).setRow w3.heap.size (rdA ts d)).heap.size := (Array.getElem?_eq_some_iff.1 hq4.row).1
    clear HQ HSB HZX HLOW
    generalize (w3.alloc (.cells zD 37)).setRow w3.heap.size (rdA ts d) = w4 at *
    have HQ1 := Lib.hid hq1
    have HQ2 := Lib.hid hq4
    have HSB := Lib.hid hs1
    have HZX := Lib.hid hz1
    have HLOW := Lib.hid hl1
    have HS4 := Lib.hid hb4
    clear hq4 hq1 hs1 hz1 hl1 hb4
    have hcf := (rdA_file HQ1.out.n3 HQ1.out.m3 i HT.out HF.out).2
    have hkc : Hid (∀ w', Below w3.heap.size w3 w' → w'.cell? ⟨w.heap.size, i * 2 + 1, none⟩ = some (.slice t.sp f.steps.length t.sc)) := fun w' hb => by
      have h3 : w3.heap[w.heap.size]? = some (.cells (rdA ts d) 37 (0, 0)) := by rw [← HS4.out.block _ (by omega)]; exact HQ1.out.row
      rw [cell_of_row _ _ _ _ _ _ (Below.keepOld hb h3)]; exact hcf
    have hkM : Hid (∀ w', Below w3.heap.size w3 w' → w'.rangeAt (w.heap.size + 1) 0 (#[.bool true, .int .i64 (m : Int), .slice none 0 0] : Array Value).toList) := fun w' hb => by
      have h3 : w3.heap[w.heap.size + 1]? = some (.cells (#[.bool true, .int .i64 (m : Int), .slice none 0 0] : Array Value) 70 (0, 0)) := by rw [← HS4.out.block _ (by omega)]; exact HSB.out
      exact row_rangeR (Below.keepOld hb h3)
    clear hcf
    have hi3j : (i : Int) < 3 := by omega
    have HON : Hid (∀ u ∈ rows.flatten, u.oneCell' = true) := one_rows HRS.out HST.out
    have HON2 : Hid (∀ u ∈ (#[.bool true, .int .i64 (m : Int), .slice none 0 0] : Array Value).toList, u.oneCell' = true) := by
      show ∀ u ∈ _, _
      intro u hu
      simp only [List.mem_cons, List.not_mem_nil, or_false] at hu
      rcases hu with rfl | rfl | rfl <;> rfl
    have HK1 : Hid (0 + f.steps.length ≤ 9223372036854775807 ∧ (0 + f.steps.length) * 40 ≤ 140737488355328) := ⟨by have := HFEW.out; omega, by have := HFEW.out; omega⟩
    have HK3 : Hid (f.steps.length + 1 ≤ 9223372036854775807 ∧ (f.steps.length + 1) * 40 ≤ 140737488355328) := ⟨by have := HFEW.out; omega, by have := HFEW.out; omega⟩
    have HK2 : Hid (0 + f.steps.length + 1 ≤ 9223372036854775807 ∧ (0 + f.steps.length + 1) * 40 ≤ 140737488355328) := ⟨by have := HFEW.out; omega, by have := HFEW.out; omega⟩
    refine wp_region_tree (Below w3.heap.size w3) (.take 0 (.take 2 (.take 3 (.take 4 (.take 5 (.take 6 (.take 8 (.take 11 (.two 1 9 (.two 7 9 (.one 9 (.one 10 (.take 12 (.take 13 (.one 14 .nil))))) (.one 7 (.one 10 (.take 12 (.take 13 (.one 14 .nil)))))) (.one 1 (.one 7 (.one 10 (.take 12 (.take 13 (.one 14 .nil)))))))))))))))  (by kernel_rfl) (by kernel_rfl) (HS4.out.trans ((below_drew1 _ _).mono HS4.out.size)) ?_
    have hyd : Below w4.heap.size w4 w4.drew := below_drew1 _ _
    have hzd : w3.heap.size < w4.drew.heap.size := hs4
    have hq1 := HQ1.out.next hyd
    have hq4 := HQ2.out.next hyd
    have hs1 := Below.keepOld hyd HSB.out
    have hz1 := Below.keepOld hyd HZX.out
    have hl1 := HLOW.out.trans (hyd.mono HLOW.out.size)
    have hsd := HS4.out.trans (hyd.mono HS4.out.size)
    clear HQ1 HQ2 HSB HZX HLOW HS4 hyd hs4
    generalize w4.drew = wd at *
    have HQ1 := Lib.hid hq1
    have HQ2 := Lib.hid hq4
    have HZX := Lib.hid hz1
    have HLOW := Lib.hid hl1
    have HSD := Lib.hid hsd
    clear hq1 hq4 hs1 hz1 hl1 hsd
    have hSL : Hid (∀ w', Below wd.heap.size wd w' → Sl w' t.sp f.steps.length t.sc 3 rows.flatten) := fun w' hb => HRS.out.sl.below (HLOW.out.trans (hb.mono HLOW.out.size))
    iterate 5 ((apply tree_take; (· rfl); (· rfl); (· (intro w' hb'; go_simp; try with_reducible rfl)); try simp only [Act.put, List.setIfInBounds_toArray, List.set_cons_zero, List.set_cons_succ]))
    (apply tree_take; (· rfl); (· rfl); (· (intro w' hb'; have hk' := (hkc.out) w' hb'; go_simp; try with_reducible rfl)); try simp only [Act.put, List.setIfInBounds_toArray, List.set_cons_zero, List.set_cons_succ])
    refine tree_load rfl (by rfl) 70 _ rfl (w.heap.size + 1) 0 rfl (#[.bool true, .int .i64 (m : Int), .slice none 0 0] : Array Value) _ (fun w' hb => hkM.out w' hb) Tryz.underlying70 rfl (infoSt _ rfl) ?_
    try simp only [Act.put, List.setIfInBounds_toArray, List.set_cons_zero, List.set_cons_succ]
    iterate 1 ((apply tree_take; (· rfl); (· rfl); (· (intro w' hb'; go_simp; try with_reducible rfl)); try simp only [Act.put, List.setIfInBounds_toArray, List.set_cons_zero, List.set_cons_succ]))
    have hb0 : Below wd.heap.size wd (wd.alloc (.cells #[] 70)) := Below.allocs _ _
    have hb5 : Below wd.heap.size wd (wd.alloc (.cells (#[.bool true, .int .i64 (m : Int), .slice none 0 0] : Array Value) 70)) := Below.allocs _ _
    refine tree_two ?_ (?_)
    · refine tree_one rfl (by rfl) (fun K hK => ?_)
      go_simp
      refine Shut.out hK _ _ (HSD.out.trans (hb0.mono HSD.out.size)) ?_
      clear hK K
      try simp only [Act.put, List.setIfInBounds_toArray, List.set_cons_zero, List.set_cons_succ]
      have o1 : (wd.alloc (.cells #[] 70)).ownsRow wd.heap.size 70 3 (.slice (some ⟨wd.heap.size, 0, none⟩) 0 0) 0 [] := own_made0 wd _ _ _ _ rfl (Nat.le_refl _)
      have hz1 : wd.heap.size ≤ (wd.alloc (.cells #[] 70)).heap.size := hb0.size
      generalize wd.alloc (.cells #[] 70) = wa at *
      refine tree_two ?_ ?_
      · refine tree_one rfl (by rfl) (fun K hK => oper_of_list rfl ?_)
        refine wpList_append_nx rfl _ _ 32 rfl (base := wd.heap.size) Tryz.underlying32 infoSteps (by rfl) (by omega) rfl o1 rfl (hSL.out _ hb0) HON.out HK1.out hz1 ?_
        intro p2 c2 w5 o2 hg2 hnx2 _
        rw [Nat.zero_add f.steps.length] at *
        have hb2 : Below wd.heap.size wd w5 := hb0.grown hg2 hz1 (fun i hi => (o1.lt i hi).1)
        refine only_end (Shut.out hK _ _ (HSD.out.trans (hb2.mono HSD.out.size)) ?_)
        clear hK K
        try simp only [Act.put, List.setIfInBounds_toArray, List.set_cons_zero, List.set_cons_succ]
        have hz2 : wd.heap.size ≤ w5.heap.size := hb2.size
        refine tree_one rfl (by rfl) (fun K hK => oper_of_list rfl ?_)
        refine wpList_buildOne rfl 32 70 _ rfl (#[.bool true, .int .i64 (m : Int), .slice none 0 0] : Array Value) rfl 3 Tryz.underlying32 (by kernel_rfl) (by omega) (by omega) rfl ?_
        have hb6 := hb2.alloc hz2 (.cells (#[.bool true, .int .i64 (m : Int), .slice none 0 0] : Array Value) 70)
        have o6 := own_below_alloc o2 (.cells (#[.bool true, .int .i64 (m : Int), .slice none 0 0] : Array Value) 70)
        have r6 := heap_alloc_last w5 (.cells (#[.bool true, .int .i64 (m : Int), .slice none 0 0] : Array Value) 70)
        have hz6 : wd.heap.size ≤ (w5.alloc (.cells (#[.bool true, .int .i64 (m : Int), .slice none 0 0] : Array Value) 70)).heap.size := hb6.size
        refine only_end (Shut.out hK _ _ (HSD.out.trans (hb6.mono HSD.out.size)) ?_)
        clear hK K
        try simp only [Act.put, List.setIfInBounds_toArray, List.set_cons_zero, List.set_cons_succ]
        generalize w5.alloc (.cells (#[.bool true, .int .i64 (m : Int), .slice none 0 0] : Array Value) 70) = w6 at *
        refine tree_one rfl (by rfl) (fun K hK => oper_of_list rfl ?_)
        refine wpList_append_nx rfl _ _ 32 rfl (base := wd.heap.size) Tryz.underlying32 infoSteps (by rfl) (by omega) rfl o6 rfl (row_sl r6 3 rfl) HON2.out HK3.out hz6 ?_
        intro p9 c9 wf o9 hg9 hnx9 _
        have hbf : Below wd.heap.size wd wf := hb6.grown hg9 hz6 (fun i hi => (o6.lt i hi).1)
        refine only_end (Shut.out hK _ _ (HSD.out.trans (hbf.mono HSD.out.size)) ?_)
        clear hK K
        try simp only [Act.put, List.setIfInBounds_toArray, List.set_cons_zero, List.set_cons_succ]
        skip
        -- wf: both lists are joined (o9); the step is stored, the used is weighed
        iterate 2 ((apply tree_take; (· rfl); (· rfl); (· (intro w' hb'; go_simp; try with_reducible rfl)); try simp only [Act.put, List.setIfInBounds_toArray, List.set_cons_zero, List.set_cons_succ]))
        have hcf := (rdA_file HQ2.out.n3 HQ2.out.m3 i HT.out HF.out).2
        have hq6 := HQ2.out.next hbf
        have hc14 : wf.cell? ⟨w3.heap.size, i * 2 + 1, none⟩ = some (.slice t.sp f.steps.length t.sc) := by rw [cell_of_row _ _ _ _ _ _ hq6.row]; exact hcf
        have hfz14 : wf.frozen? ⟨w3.heap.size, i * 2 + 1, none⟩ = false := frozen_of_row _ _ _ _ _ hq6.row
        have hsn : Rb w.heap.size wf ⟨t.kp, t.kc, p9, c9⟩ (f.take (St.cut m)) := Rb.snoc HRB.out HSR.out rfl HTK.out (by have := HFEW.out; omega) (HLOW.out.trans (hbf.mono HLOW.out.size)) o9
        obtain ⟨hq7, hk7⟩ := hq6.steps i hi HT.out HF.out p9 c9 (f.take (St.cut m)) rfl hsn HNT.out HFU.out
        rw [take_len] at hq7 hk7
        have hst7 : Below w3.heap.size w3 (wf.setCell ⟨w3.heap.size, i * 2 + 1, none⟩ (.slice p9 (f.steps.length + 1) c9)) := (HSD.out.trans (hbf.mono HSD.out.size)).trans (Turns.below ((Turns.refl (fun k => k = w3.heap.size) wf).setCell (p := ⟨w3.heap.size, i * 2 + 1, none⟩) (fun _ => rfl) _) (by have := hbf.size; omega) (fun _ e => by omega))
        refine tree_one rfl (by rfl) (fun K hK => ?_)
        go_simp
        refine Shut.out hK _ _ hst7 ?_
        clear hK K
        try simp only [Act.put, List.setIfInBounds_toArray, List.set_cons_zero, List.set_cons_succ]
        refine tree_nil ?_
        have hno : ∀ k : Nat, k < w3.heap.size → (wf.setCell ⟨w3.heap.size, i * 2 + 1, none⟩ (.slice p9 (f.steps.length + 1) c9)).heap[k]? = wd.heap[k]? := fun k hk => by rw [hst7.block k hk, HSD.out.block k hk]
        have hq8 := (HQ1.out.next hbf).beside hk7 (by rw [hno _ (by omega)]; exact ((hbf.block _ (by omega)).symm))
        have hz8 : (wf.setCell ⟨w3.heap.size, i * 2 + 1, none⟩ (.slice p9 (f.steps.length + 1) c9)).heap[w.heap.size + 2]? = some (.cells zD 37 (0, 0)) := by rw [hno _ (by omega)]; exact HZX.out
        have hl8 := (HLOW.out.trans (hbf.mono HLOW.out.size)).trans (Turns.below ((Turns.refl (fun k => k = w3.heap.size) wf).setCell (p := ⟨w3.heap.size, i * 2 + 1, none⟩) (fun _ => rfl) (.slice p9 (f.steps.length + 1) c9)) (by have := hbf.size; omega) (fun _ e => by omega))
        have hw8 : w3.heap.size < (wf.setCell ⟨w3.heap.size, i * 2 + 1, none⟩ (.slice p9 (f.steps.length + 1) c9)).heap.size := (Array.getElem?_eq_some_iff.1 hq7.row).1
        clear hc14 hfz14 hcf hsn hq6 hno hst7 hk7 hg9 hnx9 o9 HQ1 HQ2 HZX HLOW HSD hSL hkc hkM
        generalize wf.setCell ⟨w3.heap.size, i * 2 + 1, none⟩ (.slice p9 (f.steps.length + 1) c9) = w7 at *
        have HQ := Lib.hid hq8
        have HQ2 := Lib.hid hq7
        have HZX := Lib.hid hz8
        have HLOW := Lib.hid hl8
        clear hq8 hq7 hz8 hl8
        have hus := HUT.out
        obtain ⟨DN, hDN⟩ : ∃ DN, setF d i (f.take (St.cut m)) = DN := ⟨_, rfl⟩
        obtain ⟨TN, hTN⟩ : ∃ TN, ts.set i ⟨t.kp, t.kc, p9, c9⟩ = TN := ⟨_, rfl⟩
        have hq2 := HQ2.out
        rw [hDN, hTN] at hq2
        have hE1 := @doE_full d i f (St.cut m) hdn
        have hE2 := @doE_ok d i f (St.cut m) hdn
        rw [hDN] at hus hE2
        rw [← hus, HDX.out, HEX.out] at hE1 hE2
        generalize usedL d.fs - f.need + max f.need ((St.cut m).size f.now.length) = UN at hus
        have HE1 := Lib.hid hE1
        have HE2 := Lib.hid hE2
        have hgs : Hid (w.heap.size + 2 < w3.heap.size) := hws
        clear hE1 hE2 HQ2 HUT HTK HNT HFU HF HT HRF HRS HST HSR HRB HNB HFEW HRO HDX HEX hus hDN hTN HON HON2 HK1 HK2 HK3
        have HQ2 := Lib.hid hq2
        clear hq2
        obtain ⟨hc6, _, _, _⟩ := HQ.out.cells
        have HRM : Hid (∀ w', Below w7.heap.size w7 w' → w'.cell? ⟨w.heap.size, 6, none⟩ = some (.int .i64 (d.room : Int))) := fun w' hb => (HQ.out.next hb).cells.1
        have HLA : Hid (∀ w', Below w7.heap.size w7 w' → w'.rangeAt w3.heap.size 0 (rdA TN DN).toList) := fun w' hb => row_rangeR (Below.keepOld hb HQ2.out.row)
        clear hc6
        go_upto_region 7 with fail
        refine wp_region_eager [(0, true), (2, true), (3, true), (1, false), (4, true)] (by kernel_rfl) (by kernel_rfl) (eagerOpen rfl ?_)
        have hy0 : Below w7.heap.size w7 w7.drew := below_drew1 _ _
        repeat (first
          | ((with_reducible refine eagerLoadAt 8 ?_); refine wpEager_load (by rfl) 37 _ rfl w3.heap.size 0 rfl (rdA TN DN) _ (fun w' hb => HLA.out w' hb) Tryz.underlying37 rfl (infoRD _ (rdA_size HQ2.out.n3 HQ2.out.m3)) ?_; (try simp only [Act.put, List.setIfInBounds_toArray, List.set_cons_zero, List.set_cons_succ]); (try refine eagerOpen rfl ?_))
          | (first | (apply wpEager_take; (· rfl); (· (intro w' hb'; go_simp; try with_reducible rfl)); (try simp only [Act.put, List.setIfInBounds_toArray, List.set_cons_zero, List.set_cons_succ]); (try refine eagerOpen rfl ?_)) | (refine wpEager_skip (by rfl) ?_; (try simp only [Act.put, List.setIfInBounds_toArray, List.set_cons_zero, List.set_cons_succ]); (try refine eagerOpen rfl ?_)) | (refine wpEager_off (by rfl) ?_; (try simp only [Act.put, List.setIfInBounds_toArray, List.set_cons_zero, List.set_cons_succ]); (try refine eagerOpen rfl ?_)))
          | (apply wpEager_take; (· rfl); (· (intro w' hb'; have hk' := (fun w' hb => HRM.out w' hb) w' hb'; go_split_ands; go_simp; try with_reducible rfl)); (try simp only [Act.put, List.setIfInBounds_toArray, List.set_cons_zero, List.set_cons_succ]); (try refine eagerOpen rfl ?_)))
        (refine wpEager_op (by rfl) (fun K hK => ?_); go_simp; (refine (rused_any TN DN _ (HQ2.out.next hy0).at).mono ?_; rintro e y1 ⟨rfl, hb⟩; have hy1 := hy0.trans hb; clear hb); refine Shut.out hK _ _ (by assumption) ?_; clear hK K; (try simp only [Act.put, List.setIfInBounds_toArray, List.set_cons_zero, List.set_cons_succ]); (try refine eagerOpen rfl ?_))
        by_cases hr : d.room < usedL DN.fs
        · obtain ⟨s1, s2⟩ := HE1.out hr
          subst DX EX
          have hd1 : decide ((d.room : Int) < (usedL DN.fs : Int)) = true := decide_eq_true (by omega)
          have hd2 : decide (d.room < usedL DN.fs) = true := decide_eq_true hr
          repeat (first
            | (first | (apply wpEager_take; (· rfl); (· (intro w' hb'; go_simp; try with_reducible rfl)); (try simp only [Act.put, List.setIfInBounds_toArray, List.set_cons_zero, List.set_cons_succ]); (try refine eagerOpen rfl ?_)) | (refine wpEager_skip (by rfl) ?_; (try simp only [Act.put, List.setIfInBounds_toArray, List.set_cons_zero, List.set_cons_succ]); (try refine eagerOpen rfl ?_)) | (refine wpEager_off (by rfl) ?_; (try simp only [Act.put, List.setIfInBounds_toArray, List.set_cons_zero, List.set_cons_succ]); (try refine eagerOpen rfl ?_))))
          refine eagerEnd ?_
          have hq1 := HQ.out.next hy1
          have hz1 := Below.keepOld hy1 HZX.out
          have hl1 := HLOW.out.trans (hy1.mono HLOW.out.size)
          clear HQ HQ2 HZX HLOW HRM HLA hy0 hy1 HE1 HE2
          have HQ := Lib.hid hq1
          have HZX := Lib.hid hz1
          have HLOW := Lib.hid hl1
          clear hq1 hz1 hl1
          go_upto_region 8 with fail
          skip
          -- the result: the disk of the first box, an answer
          go_wp2_with (first
            | refine wpList_load_row rfl 37 _ rfl w.heap.size rfl 37 (rdA ts d) (0, 0) _ HQ.out.row Tryz.underlying37 rfl (infoRD _ (rdA_size HQ.out.n3 HQ.out.m3)) ?_
            | refine wpList_store_row rfl 37 _ _ rfl (w.heap.size + 2) (rdA ts d) rfl rfl 37 zD HZX.out (infoRD _ (rdA_size HQ.out.n3 HQ.out.m3)) (by rw [rdA_size HQ.out.n3 HQ.out.m3]; rfl) (rdA_one HQ.out.n3 HQ.out.m3) ?_)
          have HS := Lib.hid (setRow_heap _ _ _ (rdA ts d) _ _ HZX.out)
          refine bodyPost_ret (results_cell_tmp2 rfl _ _ _ _ _ _ _ rfl HS.out Tryz.underlying37 rfl (infoRD _ (rdA_size HQ.out.n3 HQ.out.m3))) rfl ?_
          exact ⟨ts, rfl, HQ.out.done HZX.out (by omega), below_setRow HLOW.out (by omega) _⟩
        · have HSS := Lib.hid (HE2.out hr)
          have hd1 : decide ((d.room : Int) < (usedL DN.fs : Int)) = false := decide_eq_false (by omega)
          have hd2 : decide (d.room < usedL DN.fs) = false := decide_eq_false hr
          repeat (first
            | (first | (apply wpEager_take; (· rfl); (· (intro w' hb'; go_simp; try with_reducible rfl)); (try simp only [Act.put, List.setIfInBounds_toArray, List.set_cons_zero, List.set_cons_succ]); (try refine eagerOpen rfl ?_)) | (refine wpEager_skip (by rfl) ?_; (try simp only [Act.put, List.setIfInBounds_toArray, List.set_cons_zero, List.set_cons_succ]); (try refine eagerOpen rfl ?_)) | (refine wpEager_off (by rfl) ?_; (try simp only [Act.put, List.setIfInBounds_toArray, List.set_cons_zero, List.set_cons_succ]); (try refine eagerOpen rfl ?_))))
          refine eagerEnd ?_
          have hq1 := HQ2.out.next hy1
          have hz1 := Below.keepOld hy1 HZX.out
          have hl1 := HLOW.out.trans (hy1.mono HLOW.out.size)
          clear HQ HQ2 HZX HLOW HRM HLA hy0 hy1 HE1 HE2 hr
          have HQ2 := Lib.hid hq1
          have HZX := Lib.hid hz1
          have HLOW := Lib.hid hl1
          clear hq1 hz1 hl1
          have HBU := Lib.hid (rburn_any TN DN y1 HQ2.out.n3 HQ2.out.m3 HQ2.out.fuse1)
          go_upto_region 9 with fail
          go_wp2_with (refine wpList_load_row rfl 37 _ rfl w3.heap.size rfl 37 (rdA TN DN) (0, 0) _ HQ2.out.row Tryz.underlying37 rfl (infoRD _ (rdA_size HQ2.out.n3 HQ2.out.m3)) ?_)
          refine HBU.out.mono ?_
          rintro e w8 ⟨rfl, hb8⟩
          have hq3 := HQ2.out.next hb8
          obtain ⟨hq4, hk4⟩ := hq3.burn
          obtain ⟨s1, s2⟩ := HSS.out
          rw [← s1] at s2 hq4 hk4 ⊢
          have HS2 := Lib.hid s2
          clear s1 s2 HSS
          have HQ3 := Lib.hid hq3
          have HD3 : Hid (DX.fs.length = 3) := hq4.m3
          have hz4 : (w8.setRow w3.heap.size (rdA TN DX)).heap[w.heap.size + 2]? = some (.cells zD 37 (0, 0)) := by rw [setRow_other _ _ _ _ (by omega)]; exact Below.keepOld hb8 HZX.out
          have HZ5 := Lib.hid hz4
          have HL5 : Hid (Below w.heap.size w (w8.setRow w3.heap.size (rdA TN DX))) := below_setRow (HLOW.out.trans (hb8.mono HLOW.out.size)) (by omega) _
          have HQ := Lib.hid hq4
          clear HQ2 HZX HLOW HBU hb8 hq3 hq4 hk4 hz4
          go_upto_region 10 with (refine wpList_store_row rfl 37 _ _ rfl w3.heap.size (rdA TN DX) rfl rfl 37 (rdA TN DN) HQ3.out.row (infoRD _ (rdA_size HQ3.out.n3 HD3.out)) (by rw [rdA_size HQ3.out.n3 HD3.out, rdA_size HQ3.out.n3 HQ3.out.m3]) (rdA_one HQ3.out.n3 HD3.out) ?_)
          try simp only [Act.put]
          clear HQ3
          generalize w8.setRow w3.heap.size (rdA TN DX) = w9 at *
          have HZX := HZ5
          have HLOW := HL5
          clear HZ5 HL5
          have HAN : Hid ((if DX.down = true then (18 : Int) else 0) = EX) := HS2.out.symm
          clear HS2 hd1 hd2
          skip
          -- 'return d, answer(d)': region 10 of world w9, disk DX of TN
          have HLA : Hid (∀ w', Below w9.heap.size w9 w' → w'.rangeAt w3.heap.size 0 (rdA TN DX).toList) := fun w' hb j v hv => by rw [cell_of_row _ _ _ _ _ _ (Below.keepOld hb HQ.out.row), ← Array.getElem?_toList, Nat.zero_add]; exact hv
          go_upto_region 10 with fail
          refine wp_region_eager_t (Below w9.heap.size w9) [0, 1] [(0, true), (1, true), (2, false)] [3, 4] (by kernel_rfl) (by kernel_rfl) ?_ (eagerTOpen rfl ?_)
          · exact below_drew1 _ _
          have hy0 : Below w9.heap.size w9 w9.drew := below_drew1 _ _
          repeat (first
            | ((with_reducible refine eagerTLoadAt 8 ?_); refine wpEagerT_load (by rfl) 37 _ rfl w3.heap.size 0 rfl (rdA TN DX) _ (fun w' hb => HLA.out w' hb) Tryz.underlying37 rfl (infoRD _ (rdA_size HQ.out.n3 HQ.out.m3)) ?_; (try simp only [Act.put, List.setIfInBounds_toArray, List.set_cons_zero, List.set_cons_succ]); (try refine eagerTOpen rfl ?_))
            | (first | (apply wpEagerT_take; (· rfl); (· (intro w' hb'; go_simp; try with_reducible rfl)); (try simp only [Act.put, List.setIfInBounds_toArray, List.set_cons_zero, List.set_cons_succ]); (try refine eagerTOpen rfl ?_)) | (refine wpEagerT_skip (by rfl) ?_; (try simp only [Act.put, List.setIfInBounds_toArray, List.set_cons_zero, List.set_cons_succ]); (try refine eagerTOpen rfl ?_))))
          (refine wpEagerT_op (by rfl) (fun K hK => ?_); go_simp; (refine (ranswer2 TN DX EX HAN.out _ HQ.out.n3 HQ.out.m3).mono ?_; rintro e y1 ⟨rfl, hb⟩; have hy1 := hy0.trans hb; clear hb); refine Shut.out hK _ _ (by assumption) ?_; clear hK K; (try simp only [Act.put, List.setIfInBounds_toArray, List.set_cons_zero, List.set_cons_succ]); (try refine eagerTOpen rfl ?_))
          refine eagerTEnd (tail2 rfl rfl ?_)
          have hq1 := HQ.out.next hy1
          have hz1 := Below.keepOld hy1 HZX.out
          have hl1 := HLOW.out.trans (hy1.mono HLOW.out.size)
          clear HQ HZX HLOW HLA hy0 hy1
          have HQ := Lib.hid hq1
          have HZX := Lib.hid hz1
          have HLOW := Lib.hid hl1
          clear hq1 hz1 hl1
          go_wp2_with (refine wpList_store_row rfl 37 _ _ rfl (w.heap.size + 2) (rdA TN DX) rfl rfl 37 zD HZX.out (infoRD _ (rdA_size HQ.out.n3 HQ.out.m3)) (by rw [rdA_size HQ.out.n3 HQ.out.m3]; rfl) (rdA_one HQ.out.n3 HQ.out.m3) ?_)
          refine noPanic_end ?_
          go_wp2_with fail
          have HS := Lib.hid (setRow_heap _ _ _ (rdA TN DX) _ _ HZX.out)
          refine bodyPost_ret (results_cell_tmp2 rfl _ _ _ _ _ _ _ rfl HS.out Tryz.underlying37 rfl (infoRD _ (rdA_size HQ.out.n3 HQ.out.m3))) rfl ?_
          exact ⟨TN, rfl, HQ.out.done HZX.out (by omega), below_setRow HLOW.out (by omega) _⟩
      · refine tree_one rfl (by rfl) (fun K hK => oper_of_list rfl ?_)
        refine wpList_buildOne rfl 32 70 _ rfl (#[.bool true, .int .i64 (m : Int), .slice none 0 0] : Array Value) rfl 3 Tryz.underlying32 (by kernel_rfl) (by omega) (by omega) rfl ?_
        have hb2 := hb0.alloc hz1 (.cells (#[.bool true, .int .i64 (m : Int), .slice none 0 0] : Array Value) 70)
        have o2 := own_below_alloc o1 (.cells (#[.bool true, .int .i64 (m : Int), .slice none 0 0] : Array Value) 70)
        have r2 := heap_alloc_last wa (.cells (#[.bool true, .int .i64 (m : Int), .slice none 0 0] : Array Value) 70)
        have hz2 : wd.heap.size ≤ (wa.alloc (.cells (#[.bool true, .int .i64 (m : Int), .slice none 0 0] : Array Value) 70)).heap.size := hb2.size
        have hne : wa.heap.size ≠ wd.heap.size := fun e => by have := (o1.lt wd.heap.size rfl).2; omega
        refine only_end (Shut.out hK _ _ (HSD.out.trans (hb2.mono HSD.out.size)) ?_)
        clear hK K
        try simp only [Act.put, List.setIfInBounds_toArray, List.set_cons_zero, List.set_cons_succ]
        generalize wa.alloc (.cells (#[.bool true, .int .i64 (m : Int), .slice none 0 0] : Array Value) 70) = wc at *
        refine tree_one rfl (by rfl) (fun K hK => oper_of_list rfl ?_)
        refine wpList_append_nx rfl _ _ 32 rfl (base := wd.heap.size) Tryz.underlying32 infoSteps (by rfl) (by omega) rfl o2 rfl (hSL.out _ hb2) HON.out HK1.out hz2 ?_
        intro p2 c2 w6 o6 hg2 hnx2 _
        rw [Nat.zero_add f.steps.length] at *
        rw [List.nil_append] at o6
        have hb6 : Below wd.heap.size wd w6 := hb2.grown hg2 hz2 (fun i hi => (o2.lt i hi).1)
        have r6 : w6.heap[wa.heap.size]? = some (.cells (#[.bool true, .int .i64 (m : Int), .slice none 0 0] : Array Value) 70 (0, 0)) := by
          rw [hg2.block _ (Array.getElem?_eq_some_iff.1 r2).1 (fun e => hne (by injection e))]
          exact r2
        refine only_end (Shut.out hK _ _ (HSD.out.trans (hb6.mono HSD.out.size)) ?_)
        clear hK K
        try simp only [Act.put, List.setIfInBounds_toArray, List.set_cons_zero, List.set_cons_succ]
        have hz6 : wd.heap.size ≤ w6.heap.size := hb6.size
        refine tree_one rfl (by rfl) (fun K hK => oper_of_list rfl ?_)
        refine wpList_append_nx rfl _ _ 32 rfl (base := wd.heap.size) Tryz.underlying32 infoSteps (by rfl) (by omega) rfl o6 rfl (row_sl r6 3 rfl) HON2.out HK3.out hz6 ?_
        intro p9 c9 wf o9 hg9 hnx9 _
        have hbf : Below wd.heap.size wd wf := hb6.grown hg9 hz6 (fun i hi => (o6.lt i hi).1)
        refine only_end (Shut.out hK _ _ (HSD.out.trans (hbf.mono HSD.out.size)) ?_)
        clear hK K
        try simp only [Act.put, List.setIfInBounds_toArray, List.set_cons_zero, List.set_cons_succ]
        skip
        -- wf: both lists are joined (o9); the step is stored, the used is weighed
        iterate 2 ((apply tree_take; (· rfl); (· rfl); (· (intro w' hb'; go_simp; try with_reducible rfl)); try simp only [Act.put, List.setIfInBounds_toArray, List.set_cons_zero, List.set_cons_succ]))
        have hcf := (rdA_file HQ2.out.n3 HQ2.out.m3 i HT.out HF.out).2
        have hq6 := HQ2.out.next hbf
        have hc14 : wf.cell? ⟨w3.heap.size, i * 2 + 1, none⟩ = some (.slice t.sp f.steps.length t.sc) := by rw [cell_of_row _ _ _ _ _ _ hq6.row]; exact hcf
        have hfz14 : wf.frozen? ⟨w3.heap.size, i * 2 + 1, none⟩ = false := frozen_of_row _ _ _ _ _ hq6.row
        have hsn : Rb w.heap.size wf ⟨t.kp, t.kc, p9, c9⟩ (f.take (St.cut m)) := Rb.snoc HRB.out HSR.out rfl HTK.out (by have := HFEW.out; omega) (HLOW.out.trans (hbf.mono HLOW.out.size)) o9
        obtain ⟨hq7, hk7⟩ := hq6.steps i hi HT.out HF.out p9 c9 (f.take (St.cut m)) rfl hsn HNT.out HFU.out
        rw [take_len] at hq7 hk7
        have hst7 : Below w3.heap.size w3 (wf.setCell ⟨w3.heap.size, i * 2 + 1, none⟩ (.slice p9 (f.steps.length + 1) c9)) := (HSD.out.trans (hbf.mono HSD.out.size)).trans (Turns.below ((Turns.refl (fun k => k = w3.heap.size) wf).setCell (p := ⟨w3.heap.size, i * 2 + 1, none⟩) (fun _ => rfl) _) (by have := hbf.size; omega) (fun _ e => by omega))
        refine tree_one rfl (by rfl) (fun K hK => ?_)
        go_simp
        refine Shut.out hK _ _ hst7 ?_
        clear hK K
        try simp only [Act.put, List.setIfInBounds_toArray, List.set_cons_zero, List.set_cons_succ]
        refine tree_nil ?_
        have hno : ∀ k : Nat, k < w3.heap.size → (wf.setCell ⟨w3.heap.size, i * 2 + 1, none⟩ (.slice p9 (f.steps.length + 1) c9)).heap[k]? = wd.heap[k]? := fun k hk => by rw [hst7.block k hk, HSD.out.block k hk]
        have hq8 := (HQ1.out.next hbf).beside hk7 (by rw [hno _ (by omega)]; exact ((hbf.block _ (by omega)).symm))
        have hz8 : (wf.setCell ⟨w3.heap.size, i * 2 + 1, none⟩ (.slice p9 (f.steps.length + 1) c9)).heap[w.heap.size + 2]? = some (.cells zD 37 (0, 0)) := by rw [hno _ (by omega)]; exact HZX.out
        have hl8 := (HLOW.out.trans (hbf.mono HLOW.out.size)).trans (Turns.below ((Turns.refl (fun k => k = w3.heap.size) wf).setCell (p := ⟨w3.heap.size, i * 2 + 1, none⟩) (fun _ => rfl) (.slice p9 (f.steps.length + 1) c9)) (by have := hbf.size; omega) (fun _ e => by omega))
        have hw8 : w3.heap.size < (wf.setCell ⟨w3.heap.size, i * 2 + 1, none⟩ (.slice p9 (f.steps.length + 1) c9)).heap.size := (Array.getElem?_eq_some_iff.1 hq7.row).1
        clear hc14 hfz14 hcf hsn hq6 hno hst7 hk7 hg9 hnx9 o9 HQ1 HQ2 HZX HLOW HSD hSL hkc hkM
        generalize wf.setCell ⟨w3.heap.size, i * 2 + 1, none⟩ (.slice p9 (f.steps.length + 1) c9) = w7 at *
        have HQ := Lib.hid hq8
        have HQ2 := Lib.hid hq7
        have HZX := Lib.hid hz8
        have HLOW := Lib.hid hl8
        clear hq8 hq7 hz8 hl8
        have hus := HUT.out
        obtain ⟨DN, hDN⟩ : ∃ DN, setF d i (f.take (St.cut m)) = DN := ⟨_, rfl⟩
        obtain ⟨TN, hTN⟩ : ∃ TN, ts.set i ⟨t.kp, t.kc, p9, c9⟩ = TN := ⟨_, rfl⟩
        have hq2 := HQ2.out
        rw [hDN, hTN] at hq2
        have hE1 := @doE_full d i f (St.cut m) hdn
        have hE2 := @doE_ok d i f (St.cut m) hdn
        rw [hDN] at hus hE2
        rw [← hus, HDX.out, HEX.out] at hE1 hE2
        generalize usedL d.fs - f.need + max f.need ((St.cut m).size f.now.length) = UN at hus
        have HE1 := Lib.hid hE1
        have HE2 := Lib.hid hE2
        have hgs : Hid (w.heap.size + 2 < w3.heap.size) := hws
        clear hE1 hE2 HQ2 HUT HTK HNT HFU HF HT HRF HRS HST HSR HRB HNB HFEW HRO HDX HEX hus hDN hTN HON HON2 HK1 HK2 HK3
        have HQ2 := Lib.hid hq2
        clear hq2
        obtain ⟨hc6, _, _, _⟩ := HQ.out.cells
        have HRM : Hid (∀ w', Below w7.heap.size w7 w' → w'.cell? ⟨w.heap.size, 6, none⟩ = some (.int .i64 (d.room : Int))) := fun w' hb => (HQ.out.next hb).cells.1
        have HLA : Hid (∀ w', Below w7.heap.size w7 w' → w'.rangeAt w3.heap.size 0 (rdA TN DN).toList) := fun w' hb => row_rangeR (Below.keepOld hb HQ2.out.row)
        clear hc6
        go_upto_region 7 with fail
        refine wp_region_eager [(0, true), (2, true), (3, true), (1, false), (4, true)] (by kernel_rfl) (by kernel_rfl) (eagerOpen rfl ?_)
        have hy0 : Below w7.heap.size w7 w7.drew := below_drew1 _ _
        repeat (first
          | ((with_reducible refine eagerLoadAt 8 ?_); refine wpEager_load (by rfl) 37 _ rfl w3.heap.size 0 rfl (rdA TN DN) _ (fun w' hb => HLA.out w' hb) Tryz.underlying37 rfl (infoRD _ (rdA_size HQ2.out.n3 HQ2.out.m3)) ?_; (try simp only [Act.put, List.setIfInBounds_toArray, List.set_cons_zero, List.set_cons_succ]); (try refine eagerOpen rfl ?_))
          | (first | (apply wpEager_take; (· rfl); (· (intro w' hb'; go_simp; try with_reducible rfl)); (try simp only [Act.put, List.setIfInBounds_toArray, List.set_cons_zero, List.set_cons_succ]); (try refine eagerOpen rfl ?_)) | (refine wpEager_skip (by rfl) ?_; (try simp only [Act.put, List.setIfInBounds_toArray, List.set_cons_zero, List.set_cons_succ]); (try refine eagerOpen rfl ?_)) | (refine wpEager_off (by rfl) ?_; (try simp only [Act.put, List.setIfInBounds_toArray, List.set_cons_zero, List.set_cons_succ]); (try refine eagerOpen rfl ?_)))
          | (apply wpEager_take; (· rfl); (· (intro w' hb'; have hk' := (fun w' hb => HRM.out w' hb) w' hb'; go_split_ands; go_simp; try with_reducible rfl)); (try simp only [Act.put, List.setIfInBounds_toArray, List.set_cons_zero, List.set_cons_succ]); (try refine eagerOpen rfl ?_)))
        (refine wpEager_op (by rfl) (fun K hK => ?_); go_simp; (refine (rused_any TN DN _ (HQ2.out.next hy0).at).mono ?_; rintro e y1 ⟨rfl, hb⟩; have hy1 := hy0.trans hb; clear hb); refine Shut.out hK _ _ (by assumption) ?_; clear hK K; (try simp only [Act.put, List.setIfInBounds_toArray, List.set_cons_zero, List.set_cons_succ]); (try refine eagerOpen rfl ?_))
        by_cases hr : d.room < usedL DN.fs
        · obtain ⟨s1, s2⟩ := HE1.out hr
          subst DX EX
          have hd1 : decide ((d.room : Int) < (usedL DN.fs : Int)) = true := decide_eq_true (by omega)
          have hd2 : decide (d.room < usedL DN.fs) = true := decide_eq_true hr
          repeat (first
            | (first | (apply wpEager_take; (· rfl); (· (intro w' hb'; go_simp; try with_reducible rfl)); (try simp only [Act.put, List.setIfInBounds_toArray, List.set_cons_zero, List.set_cons_succ]); (try refine eagerOpen rfl ?_)) | (refine wpEager_skip (by rfl) ?_; (try simp only [Act.put, List.setIfInBounds_toArray, List.set_cons_zero, List.set_cons_succ]); (try refine eagerOpen rfl ?_)) | (refine wpEager_off (by rfl) ?_; (try simp only [Act.put, List.setIfInBounds_toArray, List.set_cons_zero, List.set_cons_succ]); (try refine eagerOpen rfl ?_))))
          refine eagerEnd ?_
          have hq1 := HQ.out.next hy1
          have hz1 := Below.keepOld hy1 HZX.out
          have hl1 := HLOW.out.trans (hy1.mono HLOW.out.size)
          clear HQ HQ2 HZX HLOW HRM HLA hy0 hy1 HE1 HE2
          have HQ := Lib.hid hq1
          have HZX := Lib.hid hz1
          have HLOW := Lib.hid hl1
          clear hq1 hz1 hl1
          go_upto_region 8 with fail
          skip
          -- the result: the disk of the first box, an answer
          go_wp2_with (first
            | refine wpList_load_row rfl 37 _ rfl w.heap.size rfl 37 (rdA ts d) (0, 0) _ HQ.out.row Tryz.underlying37 rfl (infoRD _ (rdA_size HQ.out.n3 HQ.out.m3)) ?_
            | refine wpList_store_row rfl 37 _ _ rfl (w.heap.size + 2) (rdA ts d) rfl rfl 37 zD HZX.out (infoRD _ (rdA_size HQ.out.n3 HQ.out.m3)) (by rw [rdA_size HQ.out.n3 HQ.out.m3]; rfl) (rdA_one HQ.out.n3 HQ.out.m3) ?_)
          have HS := Lib.hid (setRow_heap _ _ _ (rdA ts d) _ _ HZX.out)
          refine bodyPost_ret (results_cell_tmp2 rfl _ _ _ _ _ _ _ rfl HS.out Tryz.underlying37 rfl (infoRD _ (rdA_size HQ.out.n3 HQ.out.m3))) rfl ?_
          exact ⟨ts, rfl, HQ.out.done HZX.out (by omega), below_setRow HLOW.out (by omega) _⟩
        · have HSS := Lib.hid (HE2.out hr)
          have hd1 : decide ((d.room : Int) < (usedL DN.fs : Int)) = false := decide_eq_false (by omega)
          have hd2 : decide (d.room < usedL DN.fs) = false := decide_eq_false hr
          repeat (first
            | (first | (apply wpEager_take; (· rfl); (· (intro w' hb'; go_simp; try with_reducible rfl)); (try simp only [Act.put, List.setIfInBounds_toArray, List.set_cons_zero, List.set_cons_succ]); (try refine eagerOpen rfl ?_)) | (refine wpEager_skip (by rfl) ?_; (try simp only [Act.put, List.setIfInBounds_toArray, List.set_cons_zero, List.set_cons_succ]); (try refine eagerOpen rfl ?_)) | (refine wpEager_off (by rfl) ?_; (try simp only [Act.put, List.setIfInBounds_toArray, List.set_cons_zero, List.set_cons_succ]); (try refine eagerOpen rfl ?_))))
          refine eagerEnd ?_
          have hq1 := HQ2.out.next hy1
          have hz1 := Below.keepOld hy1 HZX.out
          have hl1 := HLOW.out.trans (hy1.mono HLOW.out.size)
          clear HQ HQ2 HZX HLOW HRM HLA hy0 hy1 HE1 HE2 hr
          have HQ2 := Lib.hid hq1
          have HZX := Lib.hid hz1
          have HLOW := Lib.hid hl1
          clear hq1 hz1 hl1
          have HBU := Lib.hid (rburn_any TN DN y1 HQ2.out.n3 HQ2.out.m3 HQ2.out.fuse1)
          go_upto_region 9 with fail
          go_wp2_with (refine wpList_load_row rfl 37 _ rfl w3.heap.size rfl 37 (rdA TN DN) (0, 0) _ HQ2.out.row Tryz.underlying37 rfl (infoRD _ (rdA_size HQ2.out.n3 HQ2.out.m3)) ?_)
          refine HBU.out.mono ?_
          rintro e w8 ⟨rfl, hb8⟩
          have hq3 := HQ2.out.next hb8
          obtain ⟨hq4, hk4⟩ := hq3.burn
          obtain ⟨s1, s2⟩ := HSS.out
          rw [← s1] at s2 hq4 hk4 ⊢
          have HS2 := Lib.hid s2
          clear s1 s2 HSS
          have HQ3 := Lib.hid hq3
          have HD3 : Hid (DX.fs.length = 3) := hq4.m3
          have hz4 : (w8.setRow w3.heap.size (rdA TN DX)).heap[w.heap.size + 2]? = some (.cells zD 37 (0, 0)) := by rw [setRow_other _ _ _ _ (by omega)]; exact Below.keepOld hb8 HZX.out
          have HZ5 := Lib.hid hz4
          have HL5 : Hid (Below w.heap.size w (w8.setRow w3.heap.size (rdA TN DX))) := below_setRow (HLOW.out.trans (hb8.mono HLOW.out.size)) (by omega) _
          have HQ := Lib.hid hq4
          clear HQ2 HZX HLOW HBU hb8 hq3 hq4 hk4 hz4
          go_upto_region 10 with (refine wpList_store_row rfl 37 _ _ rfl w3.heap.size (rdA TN DX) rfl rfl 37 (rdA TN DN) HQ3.out.row (infoRD _ (rdA_size HQ3.out.n3 HD3.out)) (by rw [rdA_size HQ3.out.n3 HD3.out, rdA_size HQ3.out.n3 HQ3.out.m3]) (rdA_one HQ3.out.n3 HD3.out) ?_)
          try simp only [Act.put]
          clear HQ3
          generalize w8.setRow w3.heap.size (rdA TN DX) = w9 at *
          have HZX := HZ5
          have HLOW := HL5
          clear HZ5 HL5
          have HAN : Hid ((if DX.down = true then (18 : Int) else 0) = EX) := HS2.out.symm
          clear HS2 hd1 hd2
          skip
          -- 'return d, answer(d)': region 10 of world w9, disk DX of TN
          have HLA : Hid (∀ w', Below w9.heap.size w9 w' → w'.rangeAt w3.heap.size 0 (rdA TN DX).toList) := fun w' hb j v hv => by rw [cell_of_row _ _ _ _ _ _ (Below.keepOld hb HQ.out.row), ← Array.getElem?_toList, Nat.zero_add]; exact hv
          go_upto_region 10 with fail
          refine wp_region_eager_t (Below w9.heap.size w9) [0, 1] [(0, true), (1, true), (2, false)] [3, 4] (by kernel_rfl) (by kernel_rfl) ?_ (eagerTOpen rfl ?_)
          · exact below_drew1 _ _
          have hy0 : Below w9.heap.size w9 w9.drew := below_drew1 _ _
          repeat (first
            | ((with_reducible refine eagerTLoadAt 8 ?_); refine wpEagerT_load (by rfl) 37 _ rfl w3.heap.size 0 rfl (rdA TN DX) _ (fun w' hb => HLA.out w' hb) Tryz.underlying37 rfl (infoRD _ (rdA_size HQ.out.n3 HQ.out.m3)) ?_; (try simp only [Act.put, List.setIfInBounds_toArray, List.set_cons_zero, List.set_cons_succ]); (try refine eagerTOpen rfl ?_))
            | (first | (apply wpEagerT_take; (· rfl); (· (intro w' hb'; go_simp; try with_reducible rfl)); (try simp only [Act.put, List.setIfInBounds_toArray, List.set_cons_zero, List.set_cons_succ]); (try refine eagerTOpen rfl ?_)) | (refine wpEagerT_skip (by rfl) ?_; (try simp only [Act.put, List.setIfInBounds_toArray, List.set_cons_zero, List.set_cons_succ]); (try refine eagerTOpen rfl ?_))))
          (refine wpEagerT_op (by rfl) (fun K hK => ?_); go_simp; (refine (ranswer2 TN DX EX HAN.out _ HQ.out.n3 HQ.out.m3).mono ?_; rintro e y1 ⟨rfl, hb⟩; have hy1 := hy0.trans hb; clear hb); refine Shut.out hK _ _ (by assumption) ?_; clear hK K; (try simp only [Act.put, List.setIfInBounds_toArray, List.set_cons_zero, List.set_cons_succ]); (try refine eagerTOpen rfl ?_))
          refine eagerTEnd (tail2 rfl rfl ?_)
          have hq1 := HQ.out.next hy1
          have hz1 := Below.keepOld hy1 HZX.out
          have hl1 := HLOW.out.trans (hy1.mono HLOW.out.size)
          clear HQ HZX HLOW HLA hy0 hy1
          have HQ := Lib.hid hq1
          have HZX := Lib.hid hz1
          have HLOW := Lib.hid hl1
          clear hq1 hz1 hl1
          go_wp2_with (refine wpList_store_row rfl 37 _ _ rfl (w.heap.size + 2) (rdA TN DX) rfl rfl 37 zD HZX.out (infoRD _ (rdA_size HQ.out.n3 HQ.out.m3)) (by rw [rdA_size HQ.out.n3 HQ.out.m3]; rfl) (rdA_one HQ.out.n3 HQ.out.m3) ?_)
          refine noPanic_end ?_
          go_wp2_with fail
          have HS := Lib.hid (setRow_heap _ _ _ (rdA TN DX) _ _ HZX.out)
          refine bodyPost_ret (results_cell_tmp2 rfl _ _ _ _ _ _ _ rfl HS.out Tryz.underlying37 rfl (infoRD _ (rdA_size HQ.out.n3 HQ.out.m3))) rfl ?_
          exact ⟨TN, rfl, HQ.out.done HZX.out (by omega), below_setRow HLOW.out (by omega) _⟩
    · refine tree_one rfl (by rfl) (fun K hK => oper_of_list rfl ?_)
      refine wpList_buildOne rfl 32 70 _ rfl (#[.bool true, .int .i64 (m : Int), .slice none 0 0] : Array Value) rfl 3 Tryz.underlying32 (by kernel_rfl) (by omega) (by omega) rfl ?_
      have r1 := heap_alloc_last wd (.cells (#[.bool true, .int .i64 (m : Int), .slice none 0 0] : Array Value) 70)
      have hz1 : wd.heap.size ≤ (wd.alloc (.cells (#[.bool true, .int .i64 (m : Int), .slice none 0 0] : Array Value) 70)).heap.size := hb5.size
      refine only_end (Shut.out hK _ _ (HSD.out.trans (hb5.mono HSD.out.size)) ?_)
      clear hK K
      try simp only [Act.put, List.setIfInBounds_toArray, List.set_cons_zero, List.set_cons_succ]
      generalize wd.alloc (.cells (#[.bool true, .int .i64 (m : Int), .slice none 0 0] : Array Value) 70) = wa at *
      refine tree_one rfl (by rfl) (fun K hK => ?_)
      go_simp
      have hb2 := hb5.alloc hz1 (.cells #[] 70)
      refine Shut.out hK _ _ (HSD.out.trans (hb2.mono HSD.out.size)) ?_
      clear hK K
      try simp only [Act.put, List.setIfInBounds_toArray, List.set_cons_zero, List.set_cons_succ]
      have o2 : (wa.alloc (.cells #[] 70)).ownsRow wd.heap.size 70 3 (.slice (some ⟨wa.heap.size, 0, none⟩) 0 0) 0 [] := own_made0 wa _ _ _ _ rfl hz1
      have r2 := block_old (.cells #[] 70) r1
      have hne : wd.heap.size ≠ wa.heap.size := fun e => by have := (Array.getElem?_eq_some_iff.1 r1).1; omega
      have hz2 : wd.heap.size ≤ (wa.alloc (.cells #[] 70)).heap.size := hb2.size
      generalize wa.alloc (.cells #[] 70) = wc at *
      refine tree_one rfl (by rfl) (fun K hK => oper_of_list rfl ?_)
      refine wpList_append_nx rfl _ _ 32 rfl (base := wd.heap.size) Tryz.underlying32 infoSteps (by rfl) (by omega) rfl o2 rfl (hSL.out _ hb2) HON.out HK1.out hz2 ?_
      intro p2 c2 w6 o6 hg2 hnx2 _
      rw [Nat.zero_add f.steps.length] at *
      rw [List.nil_append] at o6
      have hb6 : Below wd.heap.size wd w6 := hb2.grown hg2 hz2 (fun i hi => (o2.lt i hi).1)
      have r6 : w6.heap[wd.heap.size]? = some (.cells (#[.bool true, .int .i64 (m : Int), .slice none 0 0] : Array Value) 70 (0, 0)) := by
        rw [hg2.block _ (Array.getElem?_eq_some_iff.1 r2).1 (fun e => hne (by injection e))]
        exact r2
      refine only_end (Shut.out hK _ _ (HSD.out.trans (hb6.mono HSD.out.size)) ?_)
      clear hK K
      try simp only [Act.put, List.setIfInBounds_toArray, List.set_cons_zero, List.set_cons_succ]
      have hz6 : wd.heap.size ≤ w6.heap.size := hb6.size
      refine tree_one rfl (by rfl) (fun K hK => oper_of_list rfl ?_)
      refine wpList_append_nx rfl _ _ 32 rfl (base := wd.heap.size) Tryz.underlying32 infoSteps (by rfl) (by omega) rfl o6 rfl (row_sl r6 3 rfl) HON2.out HK3.out hz6 ?_
      intro p9 c9 wf o9 hg9 hnx9 _
      have hbf : Below wd.heap.size wd wf := hb6.grown hg9 hz6 (fun i hi => (o6.lt i hi).1)
      refine only_end (Shut.out hK _ _ (HSD.out.trans (hbf.mono HSD.out.size)) ?_)
      clear hK K
      try simp only [Act.put, List.setIfInBounds_toArray, List.set_cons_zero, List.set_cons_succ]
      skip
      -- wf: both lists are joined (o9); the step is stored, the used is weighed
      iterate 2 ((apply tree_take; (· rfl); (· rfl); (· (intro w' hb'; go_simp; try with_reducible rfl)); try simp only [Act.put, List.setIfInBounds_toArray, List.set_cons_zero, List.set_cons_succ]))
      have hcf := (rdA_file HQ2.out.n3 HQ2.out.m3 i HT.out HF.out).2
      have hq6 := HQ2.out.next hbf
      have hc14 : wf.cell? ⟨w3.heap.size, i * 2 + 1, none⟩ = some (.slice t.sp f.steps.length t.sc) := by rw [cell_of_row _ _ _ _ _ _ hq6.row]; exact hcf
      have hfz14 : wf.frozen? ⟨w3.heap.size, i * 2 + 1, none⟩ = false := frozen_of_row _ _ _ _ _ hq6.row
      have hsn : Rb w.heap.size wf ⟨t.kp, t.kc, p9, c9⟩ (f.take (St.cut m)) := Rb.snoc HRB.out HSR.out rfl HTK.out (by have := HFEW.out; omega) (HLOW.out.trans (hbf.mono HLOW.out.size)) o9
      obtain ⟨hq7, hk7⟩ := hq6.steps i hi HT.out HF.out p9 c9 (f.take (St.cut m)) rfl hsn HNT.out HFU.out
      rw [take_len] at hq7 hk7
      have hst7 : Below w3.heap.size w3 (wf.setCell ⟨w3.heap.size, i * 2 + 1, none⟩ (.slice p9 (f.steps.length + 1) c9)) := (HSD.out.trans (hbf.mono HSD.out.size)).trans (Turns.below ((Turns.refl (fun k => k = w3.heap.size) wf).setCell (p := ⟨w3.heap.size, i * 2 + 1, none⟩) (fun _ => rfl) _) (by have := hbf.size; omega) (fun _ e => by omega))
      refine tree_one rfl (by rfl) (fun K hK => ?_)
      go_simp
      refine Shut.out hK _ _ hst7 ?_
      clear hK K
      try simp only [Act.put, List.setIfInBounds_toArray, List.set_cons_zero, List.set_cons_succ]
      refine tree_nil ?_
      have hno : ∀ k : Nat, k < w3.heap.size → (wf.setCell ⟨w3.heap.size, i * 2 + 1, none⟩ (.slice p9 (f.steps.length + 1) c9)).heap[k]? = wd.heap[k]? := fun k hk => by rw [hst7.block k hk, HSD.out.block k hk]
      have hq8 := (HQ1.out.next hbf).beside hk7 (by rw [hno _ (by omega)]; exact ((hbf.block _ (by omega)).symm))
      have hz8 : (wf.setCell ⟨w3.heap.size, i * 2 + 1, none⟩ (.slice p9 (f.steps.length + 1) c9)).heap[w.heap.size + 2]? = some (.cells zD 37 (0, 0)) := by rw [hno _ (by omega)]; exact HZX.out
      have hl8 := (HLOW.out.trans (hbf.mono HLOW.out.size)).trans (Turns.below ((Turns.refl (fun k => k = w3.heap.size) wf).setCell (p := ⟨w3.heap.size, i * 2 + 1, none⟩) (fun _ => rfl) (.slice p9 (f.steps.length + 1) c9)) (by have := hbf.size; omega) (fun _ e => by omega))
      have hw8 : w3.heap.size < (wf.setCell ⟨w3.heap.size, i * 2 + 1, none⟩ (.slice p9 (f.steps.length + 1) c9)).heap.size := (Array.getElem?_eq_some_iff.1 hq7.row).1
      clear hc14 hfz14 hcf hsn hq6 hno hst7 hk7 hg9 hnx9 o9 HQ1 HQ2 HZX HLOW HSD hSL hkc hkM
      generalize wf.setCell ⟨w3.heap.size, i * 2 + 1, none⟩ (.slice p9 (f.steps.length + 1) c9) = w7 at *
      have HQ := Lib.hid hq8
      have HQ2 := Lib.hid hq7
      have HZX := Lib.hid hz8
      have HLOW := Lib.hid hl8
      clear hq8 hq7 hz8 hl8
      have hus := HUT.out
      obtain ⟨DN, hDN⟩ : ∃ DN, setF d i (f.take (St.cut m)) = DN := ⟨_, rfl⟩
      obtain ⟨TN, hTN⟩ : ∃ TN, ts.set i ⟨t.kp, t.kc, p9, c9⟩ = TN := ⟨_, rfl⟩
      have hq2 := HQ2.out
      rw [hDN, hTN] at hq2
      have hE1 := @doE_full d i f (St.cut m) hdn
      have hE2 := @doE_ok d i f (St.cut m) hdn
      rw [hDN] at hus hE2
      rw [← hus, HDX.out, HEX.out] at hE1 hE2
      generalize usedL d.fs - f.need + max f.need ((St.cut m).size f.now.length) = UN at hus
      have HE1 := Lib.hid hE1
      have HE2 := Lib.hid hE2
      have hgs : Hid (w.heap.size + 2 < w3.heap.size) := hws
      clear hE1 hE2 HQ2 HUT HTK HNT HFU HF HT HRF HRS HST HSR HRB HNB HFEW HRO HDX HEX hus hDN hTN HON HON2 HK1 HK2 HK3
      have HQ2 := Lib.hid hq2
      clear hq2
      obtain ⟨hc6, _, _, _⟩ := HQ.out.cells
      have HRM : Hid (∀ w', Below w7.heap.size w7 w' → w'.cell? ⟨w.heap.size, 6, none⟩ = some (.int .i64 (d.room : Int))) := fun w' hb => (HQ.out.next hb).cells.1
      have HLA : Hid (∀ w', Below w7.heap.size w7 w' → w'.rangeAt w3.heap.size 0 (rdA TN DN).toList) := fun w' hb => row_rangeR (Below.keepOld hb HQ2.out.row)
      clear hc6
      go_upto_region 7 with fail
      refine wp_region_eager [(0, true), (2, true), (3, true), (1, false), (4, true)] (by kernel_rfl) (by kernel_rfl) (eagerOpen rfl ?_)
      have hy0 : Below w7.heap.size w7 w7.drew := below_drew1 _ _
      repeat (first
        | ((with_reducible refine eagerLoadAt 8 ?_); refine wpEager_load (by rfl) 37 _ rfl w3.heap.size 0 rfl (rdA TN DN) _ (fun w' hb => HLA.out w' hb) Tryz.underlying37 rfl (infoRD _ (rdA_size HQ2.out.n3 HQ2.out.m3)) ?_; (try simp only [Act.put, List.setIfInBounds_toArray, List.set_cons_zero, List.set_cons_succ]); (try refine eagerOpen rfl ?_))
        | (first | (apply wpEager_take; (· rfl); (· (intro w' hb'; go_simp; try with_reducible rfl)); (try simp only [Act.put, List.setIfInBounds_toArray, List.set_cons_zero, List.set_cons_succ]); (try refine eagerOpen rfl ?_)) | (refine wpEager_skip (by rfl) ?_; (try simp only [Act.put, List.setIfInBounds_toArray, List.set_cons_zero, List.set_cons_succ]); (try refine eagerOpen rfl ?_)) | (refine wpEager_off (by rfl) ?_; (try simp only [Act.put, List.setIfInBounds_toArray, List.set_cons_zero, List.set_cons_succ]); (try refine eagerOpen rfl ?_)))
        | (apply wpEager_take; (· rfl); (· (intro w' hb'; have hk' := (fun w' hb => HRM.out w' hb) w' hb'; go_split_ands; go_simp; try with_reducible rfl)); (try simp only [Act.put, List.setIfInBounds_toArray, List.set_cons_zero, List.set_cons_succ]); (try refine eagerOpen rfl ?_)))
      (refine wpEager_op (by rfl) (fun K hK => ?_); go_simp; (refine (rused_any TN DN _ (HQ2.out.next hy0).at).mono ?_; rintro e y1 ⟨rfl, hb⟩; have hy1 := hy0.trans hb; clear hb); refine Shut.out hK _ _ (by assumption) ?_; clear hK K; (try simp only [Act.put, List.setIfInBounds_toArray, List.set_cons_zero, List.set_cons_succ]); (try refine eagerOpen rfl ?_))
      by_cases hr : d.room < usedL DN.fs
      · obtain ⟨s1, s2⟩ := HE1.out hr
        subst DX EX
        have hd1 : decide ((d.room : Int) < (usedL DN.fs : Int)) = true := decide_eq_true (by omega)
        have hd2 : decide (d.room < usedL DN.fs) = true := decide_eq_true hr
        repeat (first
          | (first | (apply wpEager_take; (· rfl); (· (intro w' hb'; go_simp; try with_reducible rfl)); (try simp only [Act.put, List.setIfInBounds_toArray, List.set_cons_zero, List.set_cons_succ]); (try refine eagerOpen rfl ?_)) | (refine wpEager_skip (by rfl) ?_; (try simp only [Act.put, List.setIfInBounds_toArray, List.set_cons_zero, List.set_cons_succ]); (try refine eagerOpen rfl ?_)) | (refine wpEager_off (by rfl) ?_; (try simp only [Act.put, List.setIfInBounds_toArray, List.set_cons_zero, List.set_cons_succ]); (try refine eagerOpen rfl ?_))))
        refine eagerEnd ?_
        have hq1 := HQ.out.next hy1
        have hz1 := Below.keepOld hy1 HZX.out
        have hl1 := HLOW.out.trans (hy1.mono HLOW.out.size)
        clear HQ HQ2 HZX HLOW HRM HLA hy0 hy1 HE1 HE2
        have HQ := Lib.hid hq1
        have HZX := Lib.hid hz1
        have HLOW := Lib.hid hl1
        clear hq1 hz1 hl1
        go_upto_region 8 with fail
        skip
        -- the result: the disk of the first box, an answer
        go_wp2_with (first
          | refine wpList_load_row rfl 37 _ rfl w.heap.size rfl 37 (rdA ts d) (0, 0) _ HQ.out.row Tryz.underlying37 rfl (infoRD _ (rdA_size HQ.out.n3 HQ.out.m3)) ?_
          | refine wpList_store_row rfl 37 _ _ rfl (w.heap.size + 2) (rdA ts d) rfl rfl 37 zD HZX.out (infoRD _ (rdA_size HQ.out.n3 HQ.out.m3)) (by rw [rdA_size HQ.out.n3 HQ.out.m3]; rfl) (rdA_one HQ.out.n3 HQ.out.m3) ?_)
        have HS := Lib.hid (setRow_heap _ _ _ (rdA ts d) _ _ HZX.out)
        refine bodyPost_ret (results_cell_tmp2 rfl _ _ _ _ _ _ _ rfl HS.out Tryz.underlying37 rfl (infoRD _ (rdA_size HQ.out.n3 HQ.out.m3))) rfl ?_
        exact ⟨ts, rfl, HQ.out.done HZX.out (by omega), below_setRow HLOW.out (by omega) _⟩
      · have HSS := Lib.hid (HE2.out hr)
        have hd1 : decide ((d.room : Int) < (usedL DN.fs : Int)) = false := decide_eq_false (by omega)
        have hd2 : decide (d.room < usedL DN.fs) = false := decide_eq_false hr
        repeat (first
          | (first | (apply wpEager_take; (· rfl); (· (intro w' hb'; go_simp; try with_reducible rfl)); (try simp only [Act.put, List.setIfInBounds_toArray, List.set_cons_zero, List.set_cons_succ]); (try refine eagerOpen rfl ?_)) | (refine wpEager_skip (by rfl) ?_; (try simp only [Act.put, List.setIfInBounds_toArray, List.set_cons_zero, List.set_cons_succ]); (try refine eagerOpen rfl ?_)) | (refine wpEager_off (by rfl) ?_; (try simp only [Act.put, List.setIfInBounds_toArray, List.set_cons_zero, List.set_cons_succ]); (try refine eagerOpen rfl ?_))))
        refine eagerEnd ?_
        have hq1 := HQ2.out.next hy1
        have hz1 := Below.keepOld hy1 HZX.out
        have hl1 := HLOW.out.trans (hy1.mono HLOW.out.size)
        clear HQ HQ2 HZX HLOW HRM HLA hy0 hy1 HE1 HE2 hr
        have HQ2 := Lib.hid hq1
        have HZX := Lib.hid hz1
        have HLOW := Lib.hid hl1
        clear hq1 hz1 hl1
        have HBU := Lib.hid (rburn_any TN DN y1 HQ2.out.n3 HQ2.out.m3 HQ2.out.fuse1)
        go_upto_region 9 with fail
        go_wp2_with (refine wpList_load_row rfl 37 _ rfl w3.heap.size rfl 37 (rdA TN DN) (0, 0) _ HQ2.out.row Tryz.underlying37 rfl (infoRD _ (rdA_size HQ2.out.n3 HQ2.out.m3)) ?_)
        refine HBU.out.mono ?_
        rintro e w8 ⟨rfl, hb8⟩
        have hq3 := HQ2.out.next hb8
        obtain ⟨hq4, hk4⟩ := hq3.burn
        obtain ⟨s1, s2⟩ := HSS.out
        rw [← s1] at s2 hq4 hk4 ⊢
        have HS2 := Lib.hid s2
        clear s1 s2 HSS
        have HQ3 := Lib.hid hq3
        have HD3 : Hid (DX.fs.length = 3) := hq4.m3
        have hz4 : (w8.setRow w3.heap.size (rdA TN DX)).heap[w.heap.size + 2]? = some (.cells zD 37 (0, 0)) := by rw [setRow_other _ _ _ _ (by omega)]; exact Below.keepOld hb8 HZX.out
        have HZ5 := Lib.hid hz4
        have HL5 : Hid (Below w.heap.size w (w8.setRow w3.heap.size (rdA TN DX))) := below_setRow (HLOW.out.trans (hb8.mono HLOW.out.size)) (by omega) _
        have HQ := Lib.hid hq4
        clear HQ2 HZX HLOW HBU hb8 hq3 hq4 hk4 hz4
        go_upto_region 10 with (refine wpList_store_row rfl 37 _ _ rfl w3.heap.size (rdA TN DX) rfl rfl 37 (rdA TN DN) HQ3.out.row (infoRD _ (rdA_size HQ3.out.n3 HD3.out)) (by rw [rdA_size HQ3.out.n3 HD3.out, rdA_size HQ3.out.n3 HQ3.out.m3]) (rdA_one HQ3.out.n3 HD3.out) ?_)
        try simp only [Act.put]
        clear HQ3
        generalize w8.setRow w3.heap.size (rdA TN DX) = w9 at *
        have HZX := HZ5
        have HLOW := HL5
        clear HZ5 HL5
        have HAN : Hid ((if DX.down = true then (18 : Int) else 0) = EX) := HS2.out.symm
        clear HS2 hd1 hd2
        skip
        -- 'return d, answer(d)': region 10 of world w9, disk DX of TN
        have HLA : Hid (∀ w', Below w9.heap.size w9 w' → w'.rangeAt w3.heap.size 0 (rdA TN DX).toList) := fun w' hb j v hv => by rw [cell_of_row _ _ _ _ _ _ (Below.keepOld hb HQ.out.row), ← Array.getElem?_toList, Nat.zero_add]; exact hv
        go_upto_region 10 with fail
        refine wp_region_eager_t (Below w9.heap.size w9) [0, 1] [(0, true), (1, true), (2, false)] [3, 4] (by kernel_rfl) (by kernel_rfl) ?_ (eagerTOpen rfl ?_)
        · exact below_drew1 _ _
        have hy0 : Below w9.heap.size w9 w9.drew := below_drew1 _ _
        repeat (first
          | ((with_reducible refine eagerTLoadAt 8 ?_); refine wpEagerT_load (by rfl) 37 _ rfl w3.heap.size 0 rfl (rdA TN DX) _ (fun w' hb => HLA.out w' hb) Tryz.underlying37 rfl (infoRD _ (rdA_size HQ.out.n3 HQ.out.m3)) ?_; (try simp only [Act.put, List.setIfInBounds_toArray, List.set_cons_zero, List.set_cons_succ]); (try refine eagerTOpen rfl ?_))
          | (first | (apply wpEagerT_take; (· rfl); (· (intro w' hb'; go_simp; try with_reducible rfl)); (try simp only [Act.put, List.setIfInBounds_toArray, List.set_cons_zero, List.set_cons_succ]); (try refine eagerTOpen rfl ?_)) | (refine wpEagerT_skip (by rfl) ?_; (try simp only [Act.put, List.setIfInBounds_toArray, List.set_cons_zero, List.set_cons_succ]); (try refine eagerTOpen rfl ?_))))
        (refine wpEagerT_op (by rfl) (fun K hK => ?_); go_simp; (refine (ranswer2 TN DX EX HAN.out _ HQ.out.n3 HQ.out.m3).mono ?_; rintro e y1 ⟨rfl, hb⟩; have hy1 := hy0.trans hb; clear hb); refine Shut.out hK _ _ (by assumption) ?_; clear hK K; (try simp only [Act.put, List.setIfInBounds_toArray, List.set_cons_zero, List.set_cons_succ]); (try refine eagerTOpen rfl ?_))
        refine eagerTEnd (tail2 rfl rfl ?_)
        have hq1 := HQ.out.next hy1
        have hz1 := Below.keepOld hy1 HZX.out
        have hl1 := HLOW.out.trans (hy1.mono HLOW.out.size)
        clear HQ HZX HLOW HLA hy0 hy1
        have HQ := Lib.hid hq1
        have HZX := Lib.hid hz1
        have HLOW := Lib.hid hl1
        clear hq1 hz1 hl1
        go_wp2_with (refine wpList_store_row rfl 37 _ _ rfl (w.heap.size + 2) (rdA TN DX) rfl rfl 37 zD HZX.out (infoRD _ (rdA_size HQ.out.n3 HQ.out.m3)) (by rw [rdA_size HQ.out.n3 HQ.out.m3]; rfl) (rdA_one HQ.out.n3 HQ.out.m3) ?_)
        refine noPanic_end ?_
        go_wp2_with fail
        have HS := Lib.hid (setRow_heap _ _ _ (rdA TN DX) _ _ HZX.out)
        refine bodyPost_ret (results_cell_tmp2 rfl _ _ _ _ _ _ _ rfl HS.out Tryz.underlying37 rfl (infoRD _ (rdA_size HQ.out.n3 HQ.out.m3))) rfl ?_
        exact ⟨TN, rfl, HQ.out.done HZX.out (by omega), below_setRow HLOW.out (by omega) _⟩
end Go.Proofs.YtgmahahhkaofbaaGreatDoor.Rk
