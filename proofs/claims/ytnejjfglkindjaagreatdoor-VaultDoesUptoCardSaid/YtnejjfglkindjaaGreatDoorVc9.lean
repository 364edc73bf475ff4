/- PARTS, JOINED: THE REFERENCE'S DISK: Do. Conditions: sizes that fit. THE REFERENCE'S DISK: Append, Cut. Conditions: sizes that fit. THE REFERENCE'S DISK: Crash. Conditions: sizes that fit. THE REFERENCE OF ROLLS: Clear, Append, Bodies. Conditions: sizes that fit. -/
import Derived.Test.YtnejjfglkindjaaGreatDoorVc1
import Derived.Test.YtnejjfglkindjaaGreatDoorVc2
import Derived.Test.YtnejjfglkindjaaGreatDoorVc3
import Derived.Test.YtnejjfglkindjaaGreatDoorVc4
import Derived.Test.YtnejjfglkindjaaGreatDoorVc5
import Derived.Test.YtnejjfglkindjaaGreatDoorVc6
import Derived.Test.YtnejjfglkindjaaGreatDoorVc7
import Derived.Test.YtnejjfglkindjaaGreatDoorVc8
namespace Go.Proofs.YtnejjfglkindjaaGreatDoor.Rk
open Go.RowKit Go.Mir Go.Mir.Parts Dk
theorem threes (w : World) (a b c : Obj) : (((w.alloc a).alloc b).alloc c).heap[w.heap.size]? = some a ∧ (((w.alloc a).alloc b).alloc c).heap[w.heap.size + 1]? = some b ∧ (((w.alloc a).alloc b).alloc c).heap[w.heap.size + 2]? = some c ∧ (((w.alloc a).alloc b).alloc c).heap.size = w.heap.size + 3 ∧ Below w.heap.size w (((w.alloc a).alloc b).alloc c) := by
 obtain ⟨h1, h2, h3, h4⟩ := two_allocs w a b
 have hb : Below ((w.alloc a).alloc b).heap.size ((w.alloc a).alloc b) (((w.alloc a).alloc b).alloc c) := Below.allocs _ _
 refine ⟨Below.keepOld hb h1, Below.keepOld hb h2, ?_, by simp, h4.trans (hb.mono h4.size)⟩
 have := heap_alloc_last ((w.alloc a).alloc b) c
 rwa [h3] at this
theorem doE_down {d : DD} {i : Nat} {f : FD} {s : St} (h : d.down = true) : doD d i f s = d ∧ doE d i f s = 18 := by
 unfold doD doE
 rw [if_pos h, if_pos h]; exact ⟨rfl, rfl⟩
theorem doE_full {d : DD} {i : Nat} {f : FD} {s : St} (h : d.down = false) (hr : d.room < usedL d.fs - f.need + max f.need (s.size f.now.length)) : doD d i f s = d ∧ doE d i f s = 17 := by
 unfold doD doE
 have hn : ¬ d.down = true := by rw [h]; decide
 rw [if_neg hn, if_pos hr, if_neg hn, if_pos hr]; exact ⟨rfl, rfl⟩
theorem doE_ok {d : DD} {i : Nat} {f : FD} {s : St} (h : d.down = false) (hr : ¬ d.room < usedL d.fs - f.need + max f.need (s.size f.now.length)) : doD d i f s = (setF d i (f.take s)).burn ∧ doE d i f s = if (setF d i (f.take s)).burn.down = true then 18 else 0 := by
 unfold doD doE
 have hn : ¬ d.down = true := by rw [h]; decide
 rw [if_neg hn, if_neg hr, if_neg hn, if_neg hr]; exact ⟨rfl, rfl⟩
theorem used_take {d : DD} {i : Nat} {f : FD} {s : St} (hi : i < d.fs.length) (hf : d.fs[i] = f) : usedL (setF d i (f.take s)).fs = usedL d.fs - f.need + max f.need (s.size f.now.length) := by
 have h1 := usedL_set hi (f.take s)
 have h2 := usedL_mem hi
 rw [hf] at h1 h2
 have h3 : (f.take s).need = max f.need (s.size f.now.length) := rfl
 show usedL (d.fs.set i (f.take s)) = _
 omega
theorem RQ.beside {base g : Nat} {ts : List RF} {d : DD} {x y : World} (h : RQ base g ts d x) (k : KR base x y) (hr : y.heap[g]? = x.heap[g]?) : RQ base g ts d y :=
 ⟨by rw [hr]; exact h.row, h.low, h.n3, h.m3, fun i t f a b => ⟨(h.each i t f a b).1.step k, (h.each i t f a b).2⟩, h.room1, h.fuse1, h.used⟩
theorem RQ.twin {base g : Nat} {ts : List RF} {d : DD} {x : World} (h : RQ base g ts d x) (hb : base ≤ x.heap.size) : RQ base x.heap.size ts d ((x.alloc (.cells zD 65)).setRow x.heap.size (rdA ts d)) ∧ Below x.heap.size x ((x.alloc (.cells zD 65)).setRow x.heap.size (rdA ts d)) := by
 have h1 : Below x.heap.size x ((x.alloc (.cells zD 65)).setRow x.heap.size (rdA ts d)) := below_setRow (Below.allocs x _) (Nat.le_refl _) _
 refine ⟨⟨setRow_heap _ _ _ _ _ _ (heap_alloc_last x _), hb, h.n3, h.m3, fun i t f a b => ⟨(h.each i t f a b).1.step (.of_below h1), (h.each i t f a b).2⟩, h.room1, h.fuse1, h.used⟩, h1⟩
theorem row_rangeR {w : World} {b : Nat} {A : Array Value} {t : TypeId} {fr : Nat × Nat} (h : w.heap[b]? = some (.cells A t fr)) : w.rangeAt b 0 A.toList := fun j v hv => by
 rw [cell_of_row _ _ _ _ _ _ h, ← Array.getElem?_toList, Nat.zero_add]; exact hv
theorem take_len (f : FD) (s : St) : (f.take s).steps.length = f.steps.length + 1 := by
 show (f.steps ++ [s]).length = _
 simp
theorem one_rows {w : World} {p : Option Addr} {c : Nat} {l : List St} {rows : List (List Value)} (h : Rs w p l.length c 3 rows) (hs : ∀ (i : Nat) (r : List Value) (s : St), rows[i]? = some r → l[i]? = some s → StR w r s) : ∀ u ∈ rows.flatten, u.oneCell' = true := by
 intro u hu
 obtain ⟨r, hr, hur⟩ := List.mem_flatten.1 hu
 obtain ⟨i, hi, rfl⟩ := List.mem_iff_getElem.1 hr
 have hil : i < l.length := by rw [← h.count]; exact hi
 have hst := hs i rows[i] l[i] (List.getElem?_eq_getElem hi) (List.getElem?_eq_getElem hil)
 generalize rows[i] = r at *
 generalize l[i] = s at *
 cases s with
 | put B =>
  obtain ⟨q, k, rfl, _⟩ := hst
  simp only [List.mem_cons, List.not_mem_nil, or_false] at hur
  rcases hur with rfl | rfl | rfl <;> rfl
 | cut m =>
  have hst : r = _ := hst
  subst hst
  simp only [List.mem_cons, List.not_mem_nil, or_false] at hur
  rcases hur with rfl | rfl | rfl <;> rfl
set_option maxRecDepth 100000 in
set_option maxHeartbeats 6400000 in
theorem rdo_put (ts : List RF) (d : DD) (i : Nat) (hi : i < 3) (f : FD) (hf : d.fs[i]? = some f) (B : List UInt8) (q : Option Addr) (k : Nat) (w : World) (h : RDB w ts d) (hur : usedL d.fs ≤ d.room) (hb : ∀ y, KR 0 w y → Bs y q B.length k B) (hu : B.length ≤ 60000) (hfew : f.steps.length + 1 ≤ 2199023255552) :
  Calls Tryz.prog 48 #[.agg (rdA ts d), .int .i64 (i : Int), .agg #[.bool false, .int .i64 0, .slice q B.length k]] w (ROut (doD d i f (.put B)) (doE d i f (.put B)) w) := by
 have hs : (St.put B).ok f.now.length := trivial
 have hu2 : (St.put B).units ≤ 60000 := hu
 have hsr : ∀ y, KR 0 w y → StR y [.bool false, .int .i64 0, .slice q B.length k] (.put B) := fun y hy => ⟨q, k, rfl, hb y hy⟩
 have hsz0 : (St.put B).size f.now.length ≤ f.now.length + 60000 := by show f.now.length + B.length ≤ _; omega
 have hz := zeroD
 obtain ⟨q1, q2, q3, q4, q5⟩ := threes w (.cells (rdA ts d) 65) (.cells (#[.bool false, .int .i64 0, .slice q B.length k] : Array Value) 112) (.cells zD 65)
 have HQ : Hid (RQ w.heap.size w.heap.size ts d (((w.alloc (.cells (rdA ts d) 65)).alloc (.cells (#[.bool false, .int .i64 0, .slice q B.length k] : Array Value) 112)).alloc (.cells zD 65))) := RQ.of h q5 (Nat.le_refl _) q1
 have HSB := Lib.hid q2
 have HZX := Lib.hid q3
 have HSZ := Lib.hid q4
 have HLOW := Lib.hid q5
 clear q1 q2 q3 q4 q5
 have hi3 : i < d.fs.length := by rw [h.m3]; exact hi
 have hfe : d.fs[i] = f := by rw [List.getElem?_eq_getElem hi3] at hf; exact Option.some.inj hf
 have hti : i < ts.length := by rw [h.n3]; exact hi
 have ht : ts[i]? = some (ts[i]'hti) := List.getElem?_eq_getElem hti
 generalize ts[i]'hti = t at *
 obtain ⟨hrf, hnd⟩ := h.each i t f ht hf
 obtain ⟨rows, hrw⟩ := hrf
 have hrf := (hrw w (KR.refl _ _)).at
 have hrs := (hrw w (KR.refl _ _)).rs
 have hst := (hrw w (KR.refl _ _)).st
 have HRB := Lib.hid hrw
 have hnb : f.need ≤ 1000000 := by have h1 := usedL_mem hi3; have h2 := h.used; rw [hfe] at h1; omega
 have HUT := Lib.hid (used_take (s := (St.put B)) hi3 hfe)
 have hnl := hrf.ok.le
 have HTK := Lib.hid (FD.take_ok hrf.ok hs (by omega))
 have HNT := Lib.hid (nd_take hnd hrf.ok hs)
 have hub := h.used
 have hr65 := h.room1.2
 have HFU : Hid (usedL (setF d i (f.take (St.put B))).fs ≤ 1000000) := by
  show _ ≤ _
  rw [HUT.out]
  have h3 := usedL_mem hi3
  rw [hfe] at h3
  have h4 : (St.put B).size f.now.length ≤ f.now.length + 60000 := hsz0
  omega
 have HF := Lib.hid hf
 have HT := Lib.hid ht
 have HRF := Lib.hid hrf
 have HRS := Lib.hid hrs
 have HST := Lib.hid hst
 have HSR := Lib.hid hsr
 have HNB := Lib.hid hnb
 have HFEW := Lib.hid hfew
 have d1 : decide ((i : Int) < 0) = false := decide_eq_false (by omega)
 have d2 : decide ((2 : Int) < (i : Int)) = false := decide_eq_false (by omega)
 have d3 : decide (2 < i) = false := decide_eq_false (by omega)
 have HRO := Lib.hid hur
 clear hf hfe hnd hrs hst hnb hub hrf ht hsr hfew hrw
 clear h hur hb hu2 hsz0 hnl hr65 hi3 hti
 obtain ⟨DX, hDX⟩ : ∃ DX, doD d i f (.put B) = DX := ⟨_, rfl⟩
 obtain ⟨EX, hEX⟩ : ∃ EX, doE d i f (.put B) = EX := ⟨_, rfl⟩
 rw [hDX, hEX]
 have HDX := Lib.hid hDX
 have HEX := Lib.hid hEX
 clear hDX hEX hs
 go_enter Tryz.func48, Tryz.ntmps48
 go_upto_region 1 with fail
 generalize ((w.alloc (.cells (rdA ts d) 65)).alloc (.cells #[.bool false, .int .i64 0, .slice q B.length k] 112)).alloc (.cells zD 65) = w2 at *
 have HC0 : Hid (∀ w', Below w2.heap.size w2 w' → w'.cell? ⟨w.heap.size + 1, 0, none⟩ = some (.bool false)) := fun w' hb => by rw [cell_of_row _ _ _ _ _ _ (Below.keepOld hb HSB.out)]; rfl
 have HC1 : Hid (∀ w', Below w2.heap.size w2 w' → w'.cell? ⟨w.heap.size + 1, 1, none⟩ = some (.int .i64 0)) := fun w' hb => by rw [cell_of_row _ _ _ _ _ _ (Below.keepOld hb HSB.out)]; rfl
 refine wp_region_eager [(0, true), (1, true), (2, true), (3, true), (4, true), (5, true), (6, true), (7, true), (8, true), (9, true), (10, true), (11, true), (12, true), (13, true), (14, true), (15, true), (16, true), (17, true), (18, true), (19, true), (20, false), (21, true), (22, true), (23, true), (24, true), (25, true)] (by kernel_rfl) (by kernel_rfl) (eagerOpen rfl ?_)
 have hyl : Below w2.heap.size w2 w2.drew := below_drew1 _ _
 repeat (first
  | ((first | (apply wpEager_take; (· rfl); (· (intro w' hb'; go_simp; try with_reducible rfl))) | refine wpEager_skip (by rfl) ?_ | refine wpEager_off (by rfl) ?_); (try simp only [Act.put, zA, zB, zC]); (try refine eagerOpen rfl ?_))
  | (apply wpEager_take; (· rfl); (· (intro w' hb'; have hk' := (fun w' hb => HC0.out w' hb) w' hb'; go_split_ands; go_simp; try with_reducible rfl)); (try simp only [Act.put, zA, zB, zC]); (try refine eagerOpen rfl ?_)))
 refine eagerEnd ?_
 skip
 have hq1 := HQ.out.next hyl
 have hs1 := Below.keepOld hyl HSB.out
 have hz1 := Below.keepOld hyl HZX.out
 have hl1 := HLOW.out.trans (hyl.mono HLOW.out.size)
 clear HQ HSB HZX HLOW HC0 HC1 HSZ
 have HQ := Lib.hid hq1
 have HSB := Lib.hid hs1
 have HZX := Lib.hid hz1
 have HLOW := Lib.hid hl1
 clear hq1 hs1 hz1 hl1 hyl
 generalize w2.drew = w3 at *
 obtain ⟨_, _, hc8, _⟩ := HQ.out.cells
 cases hdn : d.down with
 | true =>
  obtain ⟨s1, s2⟩ := doE_down (i := i) (f := f) (s := .put B) hdn
  rw [HDX.out] at s1
  rw [HEX.out] at s2
  clear HDX HEX
  subst DX EX
  rw [hdn] at hc8
  clear hdn
  go_upto_region 4 with fail
  clear hc8
  skip
  go_wp2_with (first
   | refine wpList_load_row rfl 65 _ rfl w.heap.size rfl 65 (rdA ts d) (0, 0) _ HQ.out.row Tryz.underlying65 rfl (infoRD _ (rdA_size HQ.out.n3 HQ.out.m3)) ?_
   | refine wpList_store_row rfl 65 _ _ rfl (w.heap.size + 2) (rdA ts d) rfl rfl 65 zD HZX.out (infoRD _ (rdA_size HQ.out.n3 HQ.out.m3)) (by rw [rdA_size HQ.out.n3 HQ.out.m3]; rfl) (rdA_one HQ.out.n3 HQ.out.m3) ?_)
  have HS := Lib.hid (setRow_heap _ _ _ (rdA ts d) _ _ HZX.out)
  refine bodyPost_ret (results_cell_tmp2 rfl _ _ _ _ _ _ _ rfl HS.out Tryz.underlying65 rfl (infoRD _ (rdA_size HQ.out.n3 HQ.out.m3))) rfl ?_
  exact ⟨ts, rfl, HQ.out.done HZX.out (by omega), below_setRow HLOW.out (by omega) _⟩
 | false =>
  rw [hdn] at hc8
  skip
  go_upto_region 6 with (first
   | refine wpList_load_row rfl 65 _ rfl w.heap.size rfl 65 (rdA ts d) (0, 0) _ HQ.out.row Tryz.underlying65 rfl (infoRD _ (rdA_size HQ.out.n3 HQ.out.m3)) ?_
   | refine wpList_store_row rfl 65 _ _ rfl w3.heap.size (rdA ts d) rfl rfl 65 zD (heap_alloc_last _ _) (infoRD _ (rdA_size HQ.out.n3 HQ.out.m3)) (by rw [rdA_size HQ.out.n3 HQ.out.m3]; rfl) (rdA_one HQ.out.n3 HQ.out.m3) ?_)
  try simp only [Act.put]
  clear hc8
  have hws : w.heap.size + 2 < w3.heap.size := (Array.getElem?_eq_some_iff.1 HZX.out).1
  obtain ⟨hq4, hb4⟩ := HQ.out.twin (by omega)
  have hq1 := HQ.out.next hb4
  have hs1 := Below.keepOld hb4 HSB.out
  have hz1 := Below.keepOld hb4 HZX.out
  have hl1 := HLOW.out.trans (hb4.mono HLOW.out.size)
  have hs4 : w3.heap.size < ((w3.alloc (.cells zD 65)).setRow w3.heap.size (rdA ts d)).heap.size := (Array.getElem?_eq_some_iff.1 hq4.row).1
  clear HQ HSB HZX HLOW
  generalize (w3.alloc (.cells zD 65)).setRow w3.heap.size (rdA ts d) = w4 at *
  have HQ1 := Lib.hid hq1
  have HQ2 := Lib.hid hq4
  have HSB := Lib.hid hs1
  have HZX := Lib.hid hz1
  have HLOW := Lib.hid hl1
  have HS4 := Lib.hid hb4
  clear hq4 hq1 hs1 hz1 hl1 hb4
  have hcf := (rdA_file HQ1.out.n3 HQ1.out.m3 i HT.out HF.out).2
  have hkc : Hid (∀ w', Below w3.heap.size w3 w' → w'.cell? ⟨w.heap.size, i * 2 + 1, none⟩ = some (.slice t.sp f.steps.length t.sc)) := fun w' hb => by
   have h3 : w3.heap[w.heap.size]? = some (.cells (rdA ts d) 65 (0, 0)) := by rw [← HS4.out.block _ (by omega)]; exact HQ1.out.row
   rw [cell_of_row _ _ _ _ _ _ (Below.keepOld hb h3)]; exact hcf
  have hkM : Hid (∀ w', Below w3.heap.size w3 w' → w'.rangeAt (w.heap.size + 1) 0 (#[.bool false, .int .i64 0, .slice q B.length k] : Array Value).toList) := fun w' hb => by
   have h3 : w3.heap[w.heap.size + 1]? = some (.cells (#[.bool false, .int .i64 0, .slice q B.length k] : Array Value) 112 (0, 0)) := by rw [← HS4.out.block _ (by omega)]; exact HSB.out
   exact row_rangeR (Below.keepOld hb h3)
  clear hcf
  have hi3j : (i : Int) < 3 := by omega
  have HON : Hid (∀ u ∈ rows.flatten, u.oneCell' = true) := one_rows HRS.out HST.out
  have HON2 : Hid (∀ u ∈ (#[.bool false, .int .i64 0, .slice q B.length k] : Array Value).toList, u.oneCell' = true) := by
   show ∀ u ∈ _, _
   intro u hu
   simp only [List.mem_cons, List.not_mem_nil, or_false] at hu
   rcases hu with rfl | rfl | rfl <;> rfl
  have HK1 : Hid (0 + f.steps.length ≤ 9223372036854775807 ∧ (0 + f.steps.length) * 40 ≤ 140737488355328) := ⟨by have := HFEW.out; omega, by have := HFEW.out; omega⟩
  have HK3 : Hid (f.steps.length + 1 ≤ 9223372036854775807 ∧ (f.steps.length + 1) * 40 ≤ 140737488355328) := ⟨by have := HFEW.out; omega, by have := HFEW.out; omega⟩
  have HK2 : Hid (0 + f.steps.length + 1 ≤ 9223372036854775807 ∧ (0 + f.steps.length + 1) * 40 ≤ 140737488355328) := ⟨by have := HFEW.out; omega, by have := HFEW.out; omega⟩
  refine wp_region_tree (Below w3.heap.size w3) (.take 0 (.take 2 (.take 3 (.take 4 (.take 5 (.take 6 (.take 8 (.take 11 (.two 1 9 (.two 7 9 (.one 9 (.one 10 (.take 12 (.take 13 (.one 14 .nil))))) (.one 7 (.one 10 (.take 12 (.take 13 (.one 14 .nil)))))) (.one 1 (.one 7 (.one 10 (.take 12 (.take 13 (.one 14 .nil)))))))))))))))  (by kernel_rfl) (by kernel_rfl) (HS4.out.trans ((below_drew1 _ _).mono HS4.out.size)) ?_
  have hyd : Below w4.heap.size w4 w4.drew := below_drew1 _ _
  have hzd : w3.heap.size < w4.drew.heap.size := hs4
  have hq1 := HQ1.out.next hyd
  have hq4 := HQ2.out.next hyd
  have hs1 := Below.keepOld hyd HSB.out
  have hz1 := Below.keepOld hyd HZX.out
  have hl1 := HLOW.out.trans (hyd.mono HLOW.out.size)
  have hsd := HS4.out.trans (hyd.mono HS4.out.size)
  clear HQ1 HQ2 HSB HZX HLOW HS4 hyd hs4
  generalize w4.drew = wd at *
  have HQ1 := Lib.hid hq1
  have HQ2 := Lib.hid hq4
  have HZX := Lib.hid hz1
  have HLOW := Lib.hid hl1
  have HSD := Lib.hid hsd
  clear hq1 hq4 hs1 hz1 hl1 hsd
  have hSL : Hid (∀ w', Below wd.heap.size wd w' → Sl w' t.sp f.steps.length t.sc 3 rows.flatten) := fun w' hb => HRS.out.sl.below (HLOW.out.trans (hb.mono HLOW.out.size))
  iterate 5 ((apply tree_take; (· rfl); (· rfl); (· (intro w' hb'; go_simp; try with_reducible rfl)); try simp only [Act.put, zA, zB, zC]))
  (apply tree_take; (· rfl); (· rfl); (· (intro w' hb'; have hk' := (hkc.out) w' hb'; go_simp; try with_reducible rfl)); try simp only [Act.put, zA, zB, zC])
  refine tree_load rfl (by rfl) 112 _ rfl (w.heap.size + 1) 0 rfl (#[.bool false, .int .i64 0, .slice q B.length k] : Array Value) _ (fun w' hb => hkM.out w' hb) Tryz.underlying112 rfl (infoSt _ rfl) ?_
  try simp only [Act.put, zA, zB, zC]
  iterate 1 ((apply tree_take; (· rfl); (· rfl); (· (intro w' hb'; go_simp; try with_reducible rfl)); try simp only [Act.put, zA, zB, zC]))
  have hb0 : Below wd.heap.size wd (wd.alloc (.cells #[] 112)) := Below.allocs _ _
  have hb5 : Below wd.heap.size wd (wd.alloc (.cells (#[.bool false, .int .i64 0, .slice q B.length k] : Array Value) 112)) := Below.allocs _ _
  refine tree_key (fun a0 a' Y => ∃ (v41 v47 v49 : Value) (p9 : Option Addr) (c9 : Nat), a' = ((((a0.put (some 41) v41).put (some 47) v47).put (some 49) v49).put (some 50) (.slice p9 (f.steps.length + 1) c9)) ∧ Below wd.heap.size wd Y ∧ Y.ownsRow wd.heap.size 112 3 (.slice p9 (f.steps.length + 1) c9) (f.steps.length + 1) (rows.flatten ++ (#[.bool false, .int .i64 0, .slice q B.length k] : Array Value).toList)) (.take 12 (.take 13 (.one 14 .nil))) ?_ ?_
  ·rintro a' wf ⟨v41, v47, v49, p9, c9, ha, hbf, o9⟩
   rw [ha]
   clear ha a'
   try simp only [Act.put, zA, zB, zC]
   skip
   iterate 2 ((apply tree_take; (· rfl); (· rfl); (· (intro w' hb'; go_simp; try with_reducible rfl)); try simp only [Act.put, zA, zB, zC]))
   have hcf := (rdA_file HQ2.out.n3 HQ2.out.m3 i HT.out HF.out).2
   have hq6 := HQ2.out.next hbf
   have hc14 : wf.cell? ⟨w3.heap.size, i * 2 + 1, none⟩ = some (.slice t.sp f.steps.length t.sc) := by rw [cell_of_row _ _ _ _ _ _ hq6.row]; exact hcf
   have hfz14 : wf.frozen? ⟨w3.heap.size, i * 2 + 1, none⟩ = false := frozen_of_row _ _ _ _ _ hq6.row
   have hsn : Rb w.heap.size wf ⟨t.kp, t.kc, p9, c9⟩ (f.take (St.put B)) := Rb.snoc HRB.out HSR.out rfl HTK.out (by have := HFEW.out; omega) (HLOW.out.trans (hbf.mono HLOW.out.size)) o9
   obtain ⟨hq7, hk7⟩ := hq6.steps i hi HT.out HF.out p9 c9 (f.take (St.put B)) rfl hsn HNT.out HFU.out
   rw [take_len] at hq7 hk7
   have hst7 : Below w3.heap.size w3 (wf.setCell ⟨w3.heap.size, i * 2 + 1, none⟩ (.slice p9 (f.steps.length + 1) c9)) := (HSD.out.trans (hbf.mono HSD.out.size)).trans (Turns.below ((Turns.refl (fun k => k = w3.heap.size) wf).setCell (p := ⟨w3.heap.size, i * 2 + 1, none⟩) (fun _ => rfl) _) (by have := hbf.size; omega) (fun _ e => by omega))
   refine tree_one rfl (by rfl) (fun K hK => ?_)
   go_simp
   refine Shut.out hK _ _ hst7 ?_
   clear hK K
   try simp only [Act.put, zA, zB, zC]
   refine tree_nil ?_
   have hno : ∀ k : Nat, k < w3.heap.size → (wf.setCell ⟨w3.heap.size, i * 2 + 1, none⟩ (.slice p9 (f.steps.length + 1) c9)).heap[k]? = wd.heap[k]? := fun k hk => by rw [hst7.block k hk, HSD.out.block k hk]
   have hq8 := (HQ1.out.next hbf).beside hk7 (by rw [hno _ (by omega)]; exact ((hbf.block _ (by omega)).symm))
   have hz8 : (wf.setCell ⟨w3.heap.size, i * 2 + 1, none⟩ (.slice p9 (f.steps.length + 1) c9)).heap[w.heap.size + 2]? = some (.cells zD 65 (0, 0)) := by rw [hno _ (by omega)]; exact HZX.out
   have hl8 := (HLOW.out.trans (hbf.mono HLOW.out.size)).trans (Turns.below ((Turns.refl (fun k => k = w3.heap.size) wf).setCell (p := ⟨w3.heap.size, i * 2 + 1, none⟩) (fun _ => rfl) (.slice p9 (f.steps.length + 1) c9)) (by have := hbf.size; omega) (fun _ e => by omega))
   have hw8 : w3.heap.size < (wf.setCell ⟨w3.heap.size, i * 2 + 1, none⟩ (.slice p9 (f.steps.length + 1) c9)).heap.size := (Array.getElem?_eq_some_iff.1 hq7.row).1
   clear hc14 hfz14 hcf hsn hq6 hno hst7 hk7 o9 HQ1 HQ2 HZX HLOW HSD hSL hkc hkM
   generalize wf.setCell ⟨w3.heap.size, i * 2 + 1, none⟩ (.slice p9 (f.steps.length + 1) c9) = w7 at *
   have HQ := Lib.hid hq8
   have HQ2 := Lib.hid hq7
   have HZX := Lib.hid hz8
   have HLOW := Lib.hid hl8
   clear hq8 hq7 hz8 hl8
   have hus := HUT.out
   obtain ⟨DN, hDN⟩ : ∃ DN, setF d i (f.take (St.put B)) = DN := ⟨_, rfl⟩
   obtain ⟨TN, hTN⟩ : ∃ TN, ts.set i ⟨t.kp, t.kc, p9, c9⟩ = TN := ⟨_, rfl⟩
   have hq2 := HQ2.out
   rw [hDN, hTN] at hq2
   have hE1 := @doE_full d i f (St.put B) hdn
   have hE2 := @doE_ok d i f (St.put B) hdn
   rw [hDN] at hus hE2
   rw [← hus, HDX.out, HEX.out] at hE1 hE2
   generalize usedL d.fs - f.need + max f.need ((St.put B).size f.now.length) = UN at hus
   have HE1 := Lib.hid hE1
   have HE2 := Lib.hid hE2
   have hgs : Hid (w.heap.size + 2 < w3.heap.size) := hws
   clear hE1 hE2 HQ2 HUT HTK HNT HFU HF HT HRF HRS HST HSR HRB HNB HFEW HRO HDX HEX hus hDN hTN HON HON2 HK1 HK2 HK3
   have HQ2 := Lib.hid hq2
   clear hq2
   obtain ⟨hc6, _, _, _⟩ := HQ.out.cells
   have HRM : Hid (∀ w', Below w7.heap.size w7 w' → w'.cell? ⟨w.heap.size, 6, none⟩ = some (.int .i64 (d.room : Int))) := fun w' hb => (HQ.out.next hb).cells.1
   have HLA : Hid (∀ w', Below w7.heap.size w7 w' → w'.rangeAt w3.heap.size 0 (rdA TN DN).toList) := fun w' hb => row_rangeR (Below.keepOld hb HQ2.out.row)
   clear hc6
   go_upto_region 7 with fail
   refine wp_region_eager [(0, true), (2, true), (3, true), (1, false), (4, true)] (by kernel_rfl) (by kernel_rfl) (eagerOpen rfl ?_)
   have hy0 : Below w7.heap.size w7 w7.drew := below_drew1 _ _
   repeat (first
    | ((with_reducible refine eagerLoadAt 8 ?_); refine wpEager_load (by rfl) 65 _ rfl w3.heap.size 0 rfl (rdA TN DN) _ (fun w' hb => HLA.out w' hb) Tryz.underlying65 rfl (infoRD _ (rdA_size HQ2.out.n3 HQ2.out.m3)) ?_; (try simp only [Act.put, zA, zB, zC]); (try refine eagerOpen rfl ?_))
    | ((first | (apply wpEager_take; (· rfl); (· (intro w' hb'; go_simp; try with_reducible rfl))) | refine wpEager_skip (by rfl) ?_ | refine wpEager_off (by rfl) ?_); (try simp only [Act.put, zA, zB, zC]); (try refine eagerOpen rfl ?_))
    | (apply wpEager_take; (· rfl); (· (intro w' hb'; have hk' := (fun w' hb => HRM.out w' hb) w' hb'; go_split_ands; go_simp; try with_reducible rfl)); (try simp only [Act.put, zA, zB, zC]); (try refine eagerOpen rfl ?_)))
   (refine wpEager_op (by rfl) (fun K hK => ?_); go_simp; (refine (rused_any TN DN _ (HQ2.out.next hy0).at).mono ?_; rintro e y1 ⟨rfl, hb⟩; have hy1 := hy0.trans hb; clear hb); refine Shut.out hK _ _ (by assumption) ?_; clear hK K; (try simp only [Act.put, zA, zB, zC]); (try refine eagerOpen rfl ?_))
   by_cases hr : d.room < usedL DN.fs
   ·obtain ⟨s1, s2⟩ := HE1.out hr
    subst DX EX
    have hd1 : decide ((d.room : Int) < (usedL DN.fs : Int)) = true := decide_eq_true (by omega)
    have hd2 : decide (d.room < usedL DN.fs) = true := decide_eq_true hr
    repeat (first
     | ((first | (apply wpEager_take; (· rfl); (· (intro w' hb'; go_simp; try with_reducible rfl))) | refine wpEager_skip (by rfl) ?_ | refine wpEager_off (by rfl) ?_); (try simp only [Act.put, zA, zB, zC]); (try refine eagerOpen rfl ?_)))
    refine eagerEnd ?_
    have hq1 := HQ.out.next hy1
    have hz1 := Below.keepOld hy1 HZX.out
    have hl1 := HLOW.out.trans (hy1.mono HLOW.out.size)
    clear HQ HQ2 HZX HLOW HRM HLA hy0 hy1 HE1 HE2
    have HQ := Lib.hid hq1
    have HZX := Lib.hid hz1
    have HLOW := Lib.hid hl1
    clear hq1 hz1 hl1
    go_upto_region 8 with fail
    skip
    go_wp2_with (first
     | refine wpList_load_row rfl 65 _ rfl w.heap.size rfl 65 (rdA ts d) (0, 0) _ HQ.out.row Tryz.underlying65 rfl (infoRD _ (rdA_size HQ.out.n3 HQ.out.m3)) ?_
     | refine wpList_store_row rfl 65 _ _ rfl (w.heap.size + 2) (rdA ts d) rfl rfl 65 zD HZX.out (infoRD _ (rdA_size HQ.out.n3 HQ.out.m3)) (by rw [rdA_size HQ.out.n3 HQ.out.m3]; rfl) (rdA_one HQ.out.n3 HQ.out.m3) ?_)
    have HS := Lib.hid (setRow_heap _ _ _ (rdA ts d) _ _ HZX.out)
    refine bodyPost_ret (results_cell_tmp2 rfl _ _ _ _ _ _ _ rfl HS.out Tryz.underlying65 rfl (infoRD _ (rdA_size HQ.out.n3 HQ.out.m3))) rfl ?_
    exact ⟨ts, rfl, HQ.out.done HZX.out (by omega), below_setRow HLOW.out (by omega) _⟩
   ·have HSS := Lib.hid (HE2.out hr)
    have hd1 : decide ((d.room : Int) < (usedL DN.fs : Int)) = false := decide_eq_false (by omega)
    have hd2 : decide (d.room < usedL DN.fs) = false := decide_eq_false hr
    repeat (first
     | ((first | (apply wpEager_take; (· rfl); (· (intro w' hb'; go_simp; try with_reducible rfl))) | refine wpEager_skip (by rfl) ?_ | refine wpEager_off (by rfl) ?_); (try simp only [Act.put, zA, zB, zC]); (try refine eagerOpen rfl ?_)))
    refine eagerEnd ?_
    have hq1 := HQ2.out.next hy1
    have hz1 := Below.keepOld hy1 HZX.out
    have hl1 := HLOW.out.trans (hy1.mono HLOW.out.size)
    clear HQ HQ2 HZX HLOW HRM HLA hy0 hy1 HE1 HE2 hr
    have HQ2 := Lib.hid hq1
    have HZX := Lib.hid hz1
    have HLOW := Lib.hid hl1
    clear hq1 hz1 hl1
    have HBU := Lib.hid (rburn_any TN DN y1 HQ2.out.n3 HQ2.out.m3 HQ2.out.fuse1)
    go_upto_region 9 with fail
    go_wp2_with (refine wpList_load_row rfl 65 _ rfl w3.heap.size rfl 65 (rdA TN DN) (0, 0) _ HQ2.out.row Tryz.underlying65 rfl (infoRD _ (rdA_size HQ2.out.n3 HQ2.out.m3)) ?_)
    refine HBU.out.mono ?_
    rintro e w8 ⟨rfl, hb8⟩
    have hq3 := HQ2.out.next hb8
    obtain ⟨hq4, hk4⟩ := hq3.burn
    obtain ⟨s1, s2⟩ := HSS.out
    rw [← s1] at s2 hq4 hk4 ⊢
    have HS2 := Lib.hid s2
    clear s1 s2 HSS
    have HQ3 := Lib.hid hq3
    have HD3 : Hid (DX.fs.length = 3) := hq4.m3
    have hz4 : (w8.setRow w3.heap.size (rdA TN DX)).heap[w.heap.size + 2]? = some (.cells zD 65 (0, 0)) := by rw [setRow_other _ _ _ _ (by omega)]; exact Below.keepOld hb8 HZX.out
    have HZ5 := Lib.hid hz4
    have HL5 : Hid (Below w.heap.size w (w8.setRow w3.heap.size (rdA TN DX))) := below_setRow (HLOW.out.trans (hb8.mono HLOW.out.size)) (by omega) _
    have HQ := Lib.hid hq4
    clear HQ2 HZX HLOW HBU hb8 hq3 hq4 hk4 hz4
    go_upto_region 10 with (refine wpList_store_row rfl 65 _ _ rfl w3.heap.size (rdA TN DX) rfl rfl 65 (rdA TN DN) HQ3.out.row (infoRD _ (rdA_size HQ3.out.n3 HD3.out)) (by rw [rdA_size HQ3.out.n3 HD3.out, rdA_size HQ3.out.n3 HQ3.out.m3]) (rdA_one HQ3.out.n3 HD3.out) ?_)
    try simp only [Act.put]
    clear HQ3
    generalize w8.setRow w3.heap.size (rdA TN DX) = w9 at *
    have HZX := HZ5
    have HLOW := HL5
    clear HZ5 HL5
    have HAN : Hid ((if DX.down = true then (18 : Int) else 0) = EX) := HS2.out.symm
    clear HS2 hd1 hd2
    skip
    have HLA : Hid (∀ w', Below w9.heap.size w9 w' → w'.rangeAt w3.heap.size 0 (rdA TN DX).toList) := fun w' hb j v hv => by rw [cell_of_row _ _ _ _ _ _ (Below.keepOld hb HQ.out.row), ← Array.getElem?_toList, Nat.zero_add]; exact hv
    go_upto_region 10 with fail
    refine wp_region_eager_t (Below w9.heap.size w9) [0, 1] [(0, true), (1, true), (2, false)] [3, 4] (by kernel_rfl) (by kernel_rfl) ?_ (eagerTOpen rfl ?_)
    ·exact below_drew1 _ _
    have hy0 : Below w9.heap.size w9 w9.drew := below_drew1 _ _
    repeat (first
     | ((with_reducible refine eagerTLoadAt 8 ?_); refine wpEagerT_load (by rfl) 65 _ rfl w3.heap.size 0 rfl (rdA TN DX) _ (fun w' hb => HLA.out w' hb) Tryz.underlying65 rfl (infoRD _ (rdA_size HQ.out.n3 HQ.out.m3)) ?_; (try simp only [Act.put, zA, zB, zC]); (try refine eagerTOpen rfl ?_))
     | ((first | (apply wpEagerT_take; (· rfl); (· (intro w' hb'; go_simp; try with_reducible rfl))) | refine wpEagerT_skip (by rfl) ?_); (try simp only [Act.put, zA, zB, zC]); (try refine eagerTOpen rfl ?_)))
    (refine wpEagerT_op (by rfl) (fun K hK => ?_); go_simp; (refine (ranswer2 TN DX EX HAN.out _ HQ.out.n3 HQ.out.m3).mono ?_; rintro e y1 ⟨rfl, hb⟩; have hy1 := hy0.trans hb; clear hb); refine Shut.out hK _ _ (by assumption) ?_; clear hK K; (try simp only [Act.put, zA, zB, zC]); (try refine eagerTOpen rfl ?_))
    refine eagerTEnd (tail2 rfl rfl ?_)
    have hq1 := HQ.out.next hy1
    have hz1 := Below.keepOld hy1 HZX.out
    have hl1 := HLOW.out.trans (hy1.mono HLOW.out.size)
    clear HQ HZX HLOW HLA hy0 hy1
    have HQ := Lib.hid hq1
    have HZX := Lib.hid hz1
    have HLOW := Lib.hid hl1
    clear hq1 hz1 hl1
    go_wp2_with (refine wpList_store_row rfl 65 _ _ rfl (w.heap.size + 2) (rdA TN DX) rfl rfl 65 zD HZX.out (infoRD _ (rdA_size HQ.out.n3 HQ.out.m3)) (by rw [rdA_size HQ.out.n3 HQ.out.m3]; rfl) (rdA_one HQ.out.n3 HQ.out.m3) ?_)
    refine noPanic_end ?_
    go_wp2_with fail
    have HS := Lib.hid (setRow_heap _ _ _ (rdA TN DX) _ _ HZX.out)
    refine bodyPost_ret (results_cell_tmp2 rfl _ _ _ _ _ _ _ rfl HS.out Tryz.underlying65 rfl (infoRD _ (rdA_size HQ.out.n3 HQ.out.m3))) rfl ?_
    exact ⟨TN, rfl, HQ.out.done HZX.out (by omega), below_setRow HLOW.out (by omega) _⟩
  intro KEY
  refine tree_two ?_ (?_)
  ·refine tree_one rfl (by rfl) (fun K hK => ?_)
   go_simp
   refine Shut.out hK _ _ (HSD.out.trans (hb0.mono HSD.out.size)) ?_
   clear hK K
   try simp only [Act.put, zA, zB, zC]
   have o1 : (wd.alloc (.cells #[] 112)).ownsRow wd.heap.size 112 3 (.slice (some ⟨wd.heap.size, 0, none⟩) 0 0) 0 [] := own_made0 wd _ _ _ _ rfl (Nat.le_refl _)
   have hz1 : wd.heap.size ≤ (wd.alloc (.cells #[] 112)).heap.size := hb0.size
   generalize wd.alloc (.cells #[] 112) = wa at *
   refine tree_two ?_ ?_
   ·refine tree_one rfl (by rfl) (fun K hK => oper_of_list rfl ?_)
    refine wpList_append_nx rfl _ _ 60 rfl (base := wd.heap.size) Tryz.underlying60 infoSteps (by rfl) (by omega) rfl o1 rfl (hSL.out _ hb0) HON.out HK1.out hz1 ?_
    intro p2 c2 w5 o2 hg2 hnx2 _
    rw [Nat.zero_add f.steps.length] at *
    have hb2 : Below wd.heap.size wd w5 := hb0.grown hg2 hz1 (fun i hi => (o1.lt i hi).1)
    refine only_end (Shut.out hK _ _ (HSD.out.trans (hb2.mono HSD.out.size)) ?_)
    clear hK K
    try simp only [Act.put, zA, zB, zC]
    have hz2 : wd.heap.size ≤ w5.heap.size := hb2.size
    refine tree_one rfl (by rfl) (fun K hK => oper_of_list rfl ?_)
    refine wpList_buildOne rfl 60 112 _ rfl (#[.bool false, .int .i64 0, .slice q B.length k] : Array Value) rfl 3 Tryz.underlying60 (by kernel_rfl) (by omega) (by omega) rfl ?_
    have hb6 := hb2.alloc hz2 (.cells (#[.bool false, .int .i64 0, .slice q B.length k] : Array Value) 112)
    have o6 := own_below_alloc o2 (.cells (#[.bool false, .int .i64 0, .slice q B.length k] : Array Value) 112)
    have r6 := heap_alloc_last w5 (.cells (#[.bool false, .int .i64 0, .slice q B.length k] : Array Value) 112)
    have hz6 : wd.heap.size ≤ (w5.alloc (.cells (#[.bool false, .int .i64 0, .slice q B.length k] : Array Value) 112)).heap.size := hb6.size
    refine only_end (Shut.out hK _ _ (HSD.out.trans (hb6.mono HSD.out.size)) ?_)
    clear hK K
    try simp only [Act.put, zA, zB, zC]
    generalize w5.alloc (.cells (#[.bool false, .int .i64 0, .slice q B.length k] : Array Value) 112) = w6 at *
    refine tree_one rfl (by rfl) (fun K hK => oper_of_list rfl ?_)
    refine wpList_append_nx rfl _ _ 60 rfl (base := wd.heap.size) Tryz.underlying60 infoSteps (by rfl) (by omega) rfl o6 rfl (row_sl r6 3 rfl) HON2.out HK3.out hz6 ?_
    intro p9 c9 wf o9 hg9 hnx9 _
    have hbf : Below wd.heap.size wd wf := hb6.grown hg9 hz6 (fun i hi => (o6.lt i hi).1)
    refine only_end (Shut.out hK _ _ (HSD.out.trans (hbf.mono HSD.out.size)) ?_)
    clear hK K
    try simp only [Act.put, zA, zB, zC]
    refine KEY _ _ ?_
    try simp only [Act.put, zA, zB, zC]
    exact ⟨_, _, _, p9, c9, rfl, hbf, o9⟩
   ·refine tree_one rfl (by rfl) (fun K hK => oper_of_list rfl ?_)
    refine wpList_buildOne rfl 60 112 _ rfl (#[.bool false, .int .i64 0, .slice q B.length k] : Array Value) rfl 3 Tryz.underlying60 (by kernel_rfl) (by omega) (by omega) rfl ?_
    have hb2 := hb0.alloc hz1 (.cells (#[.bool false, .int .i64 0, .slice q B.length k] : Array Value) 112)
    have o2 := own_below_alloc o1 (.cells (#[.bool false, .int .i64 0, .slice q B.length k] : Array Value) 112)
    have r2 := heap_alloc_last wa (.cells (#[.bool false, .int .i64 0, .slice q B.length k] : Array Value) 112)
    have hz2 : wd.heap.size ≤ (wa.alloc (.cells (#[.bool false, .int .i64 0, .slice q B.length k] : Array Value) 112)).heap.size := hb2.size
    have hne : wa.heap.size ≠ wd.heap.size := fun e => by have := (o1.lt wd.heap.size rfl).2; omega
    refine only_end (Shut.out hK _ _ (HSD.out.trans (hb2.mono HSD.out.size)) ?_)
    clear hK K
    try simp only [Act.put, zA, zB, zC]
    generalize wa.alloc (.cells (#[.bool false, .int .i64 0, .slice q B.length k] : Array Value) 112) = wc at *
    refine tree_one rfl (by rfl) (fun K hK => oper_of_list rfl ?_)
    refine wpList_append_nx rfl _ _ 60 rfl (base := wd.heap.size) Tryz.underlying60 infoSteps (by rfl) (by omega) rfl o2 rfl (hSL.out _ hb2) HON.out HK1.out hz2 ?_
    intro p2 c2 w6 o6 hg2 hnx2 _
    rw [Nat.zero_add f.steps.length] at *
    rw [List.nil_append] at o6
    have hb6 : Below wd.heap.size wd w6 := hb2.grown hg2 hz2 (fun i hi => (o2.lt i hi).1)
    have r6 : w6.heap[wa.heap.size]? = some (.cells (#[.bool false, .int .i64 0, .slice q B.length k] : Array Value) 112 (0, 0)) := by
     rw [hg2.block _ (Array.getElem?_eq_some_iff.1 r2).1 (fun e => hne (by injection e))]
     exact r2
    refine only_end (Shut.out hK _ _ (HSD.out.trans (hb6.mono HSD.out.size)) ?_)
    clear hK K
    try simp only [Act.put, zA, zB, zC]
    have hz6 : wd.heap.size ≤ w6.heap.size := hb6.size
    refine tree_one rfl (by rfl) (fun K hK => oper_of_list rfl ?_)
    refine wpList_append_nx rfl _ _ 60 rfl (base := wd.heap.size) Tryz.underlying60 infoSteps (by rfl) (by omega) rfl o6 rfl (row_sl r6 3 rfl) HON2.out HK3.out hz6 ?_
    intro p9 c9 wf o9 hg9 hnx9 _
    have hbf : Below wd.heap.size wd wf := hb6.grown hg9 hz6 (fun i hi => (o6.lt i hi).1)
    refine only_end (Shut.out hK _ _ (HSD.out.trans (hbf.mono HSD.out.size)) ?_)
    clear hK K
    try simp only [Act.put, zA, zB, zC]
    refine KEY _ _ ?_
    try simp only [Act.put, zA, zB, zC]
    exact ⟨_, _, _, p9, c9, rfl, hbf, o9⟩
  ·refine tree_one rfl (by rfl) (fun K hK => oper_of_list rfl ?_)
   refine wpList_buildOne rfl 60 112 _ rfl (#[.bool false, .int .i64 0, .slice q B.length k] : Array Value) rfl 3 Tryz.underlying60 (by kernel_rfl) (by omega) (by omega) rfl ?_
   have r1 := heap_alloc_last wd (.cells (#[.bool false, .int .i64 0, .slice q B.length k] : Array Value) 112)
   have hz1 : wd.heap.size ≤ (wd.alloc (.cells (#[.bool false, .int .i64 0, .slice q B.length k] : Array Value) 112)).heap.size := hb5.size
   refine only_end (Shut.out hK _ _ (HSD.out.trans (hb5.mono HSD.out.size)) ?_)
   clear hK K
   try simp only [Act.put, zA, zB, zC]
   generalize wd.alloc (.cells (#[.bool false, .int .i64 0, .slice q B.length k] : Array Value) 112) = wa at *
   refine tree_one rfl (by rfl) (fun K hK => ?_)
   go_simp
   have hb2 := hb5.alloc hz1 (.cells #[] 112)
   refine Shut.out hK _ _ (HSD.out.trans (hb2.mono HSD.out.size)) ?_
   clear hK K
   try simp only [Act.put, zA, zB, zC]
   have o2 : (wa.alloc (.cells #[] 112)).ownsRow wd.heap.size 112 3 (.slice (some ⟨wa.heap.size, 0, none⟩) 0 0) 0 [] := own_made0 wa _ _ _ _ rfl hz1
   have r2 := block_old (.cells #[] 112) r1
   have hne : wd.heap.size ≠ wa.heap.size := fun e => by have := (Array.getElem?_eq_some_iff.1 r1).1; omega
   have hz2 : wd.heap.size ≤ (wa.alloc (.cells #[] 112)).heap.size := hb2.size
   generalize wa.alloc (.cells #[] 112) = wc at *
   refine tree_one rfl (by rfl) (fun K hK => oper_of_list rfl ?_)
   refine wpList_append_nx rfl _ _ 60 rfl (base := wd.heap.size) Tryz.underlying60 infoSteps (by rfl) (by omega) rfl o2 rfl (hSL.out _ hb2) HON.out HK1.out hz2 ?_
   intro p2 c2 w6 o6 hg2 hnx2 _
   rw [Nat.zero_add f.steps.length] at *
   rw [List.nil_append] at o6
   have hb6 : Below wd.heap.size wd w6 := hb2.grown hg2 hz2 (fun i hi => (o2.lt i hi).1)
   have r6 : w6.heap[wd.heap.size]? = some (.cells (#[.bool false, .int .i64 0, .slice q B.length k] : Array Value) 112 (0, 0)) := by
    rw [hg2.block _ (Array.getElem?_eq_some_iff.1 r2).1 (fun e => hne (by injection e))]
    exact r2
   refine only_end (Shut.out hK _ _ (HSD.out.trans (hb6.mono HSD.out.size)) ?_)
   clear hK K
   try simp only [Act.put, zA, zB, zC]
   have hz6 : wd.heap.size ≤ w6.heap.size := hb6.size
   refine tree_one rfl (by rfl) (fun K hK => oper_of_list rfl ?_)
   refine wpList_append_nx rfl _ _ 60 rfl (base := wd.heap.size) Tryz.underlying60 infoSteps (by rfl) (by omega) rfl o6 rfl (row_sl r6 3 rfl) HON2.out HK3.out hz6 ?_
   intro p9 c9 wf o9 hg9 hnx9 _
   have hbf : Below wd.heap.size wd wf := hb6.grown hg9 hz6 (fun i hi => (o6.lt i hi).1)
   refine only_end (Shut.out hK _ _ (HSD.out.trans (hbf.mono HSD.out.size)) ?_)
   clear hK K
   try simp only [Act.put, zA, zB, zC]
   refine KEY _ _ ?_
   try simp only [Act.put, zA, zB, zC]
   exact ⟨_, _, _, p9, c9, rfl, hbf, o9⟩
set_option maxRecDepth 100000 in
set_option maxHeartbeats 6400000 in
theorem rdo_cut (ts : List RF) (d : DD) (i : Nat) (hi : i < 3) (f : FD) (hf : d.fs[i]? = some f) (m : Nat) (hm : m ≤ f.now.length) (w : World) (h : RDB w ts d) (hur : usedL d.fs ≤ d.room) (hfew : f.steps.length + 1 ≤ 2199023255552) :
  Calls Tryz.prog 48 #[.agg (rdA ts d), .int .i64 (i : Int), .agg #[.bool true, .int .i64 (m : Int), .slice none 0 0]] w (ROut (doD d i f (.cut m)) (doE d i f (.cut m)) w) := by
 have hs : (St.cut m).ok f.now.length := hm
 have hu2 : (St.cut m).units ≤ 60000 := by show 1 ≤ 60000; omega
 have hsr : ∀ y, KR 0 w y → StR y [.bool true, .int .i64 (m : Int), .slice none 0 0] (.cut m) := fun _ _ => rfl
 have hsz0 : (St.cut m).size f.now.length ≤ f.now.length + 60000 := by show m ≤ _; omega
 have hz := zeroD
 obtain ⟨q1, q2, q3, q4, q5⟩ := threes w (.cells (rdA ts d) 65) (.cells #[.bool true, .int .i64 (m : Int), .slice none 0 0] 112) (.cells zD 65)
 have HQ : Hid (RQ w.heap.size w.heap.size ts d (((w.alloc (.cells (rdA ts d) 65)).alloc (.cells #[.bool true, .int .i64 (m : Int), .slice none 0 0] 112)).alloc (.cells zD 65))) := RQ.of h q5 (Nat.le_refl _) q1
 have HSB := Lib.hid q2
 have HZX := Lib.hid q3
 have HSZ := Lib.hid q4
 have HLOW := Lib.hid q5
 clear q1 q2 q3 q4 q5
 have hi3 : i < d.fs.length := by rw [h.m3]; exact hi
 have hfe : d.fs[i] = f := by rw [List.getElem?_eq_getElem hi3] at hf; exact Option.some.inj hf
 have hti : i < ts.length := by rw [h.n3]; exact hi
 have ht : ts[i]? = some (ts[i]'hti) := List.getElem?_eq_getElem hti
 generalize ts[i]'hti = t at *
 obtain ⟨hrf, hnd⟩ := h.each i t f ht hf
 obtain ⟨rows, hrw⟩ := hrf
 have hrf := (hrw w (KR.refl _ _)).at
 have hrs := (hrw w (KR.refl _ _)).rs
 have hst := (hrw w (KR.refl _ _)).st
 have HRB := Lib.hid hrw
 have hnb : f.need ≤ 1000000 := by have h1 := usedL_mem hi3; have h2 := h.used; rw [hfe] at h1; omega
 have HUT := Lib.hid (used_take (s := (St.cut m)) hi3 hfe)
 have hnl := hrf.ok.le
 have HTK := Lib.hid (FD.take_ok hrf.ok hs (by omega))
 have HNT := Lib.hid (nd_take hnd hrf.ok hs)
 have hub := h.used
 have hr65 := h.room1.2
 have HFU : Hid (usedL (setF d i (f.take (St.cut m))).fs ≤ 1000000) := by
  show _ ≤ _
  rw [HUT.out]
  have h3 := usedL_mem hi3
  rw [hfe] at h3
  have h4 : (St.cut m).size f.now.length ≤ f.now.length + 60000 := hsz0
  omega
 have HF := Lib.hid hf
 have HT := Lib.hid ht
 have HRF := Lib.hid hrf
 have HRS := Lib.hid hrs
 have HST := Lib.hid hst
 have HSR := Lib.hid hsr
 have HNB := Lib.hid hnb
 have HFEW := Lib.hid hfew
 have d1 : decide ((i : Int) < 0) = false := decide_eq_false (by omega)
 have d2 : decide ((2 : Int) < (i : Int)) = false := decide_eq_false (by omega)
 have d3 : decide (2 < i) = false := decide_eq_false (by omega)
 have HRO := Lib.hid hur
 clear hf hfe hnd hrs hst hnb hub hrf ht hsr hfew hrw
 have hi3i : (i : Int) < 3 := by omega
 have d4 : decide ((m : Int) < 0) = false := decide_eq_false (by omega)
 have d5 : decide ((f.now.length : Int) < (m : Int)) = false := decide_eq_false (by omega)
 have d6 : decide (f.now.length < m) = false := decide_eq_false (by omega)
 clear h hur hu2 hsz0 hnl hr65 hi3 hti hm
 obtain ⟨DX, hDX⟩ : ∃ DX, doD d i f (.cut m) = DX := ⟨_, rfl⟩
 obtain ⟨EX, hEX⟩ : ∃ EX, doE d i f (.cut m) = EX := ⟨_, rfl⟩
 rw [hDX, hEX]
 have HDX := Lib.hid hDX
 have HEX := Lib.hid hEX
 clear hDX hEX hs
 go_enter Tryz.func48, Tryz.ntmps48
 go_upto_region 1 with fail
 generalize ((w.alloc (.cells (rdA ts d) 65)).alloc (.cells #[.bool true, .int .i64 (m : Int), .slice none 0 0] 112)).alloc (.cells zD 65) = w2 at *
 have HC0 : Hid (∀ w', Below w2.heap.size w2 w' → w'.cell? ⟨w.heap.size + 1, 0, none⟩ = some (.bool true)) := fun w' hb => by rw [cell_of_row _ _ _ _ _ _ (Below.keepOld hb HSB.out)]; rfl
 have HC1 : Hid (∀ w', Below w2.heap.size w2 w' → w'.cell? ⟨w.heap.size + 1, 1, none⟩ = some (.int .i64 (m : Int))) := fun w' hb => by rw [cell_of_row _ _ _ _ _ _ (Below.keepOld hb HSB.out)]; rfl
 skip
 have HLF : Hid (∀ w', Below w2.heap.size w2 w' → w'.rangeAt w.heap.size (i * 2) (fA t f).toList) := fun w' hb => rd_range HQ.out.n3 HQ.out.m3 (Below.keepOld hb HQ.out.row) i HT.out HF.out
 have HRW : Hid (∀ w', Below w2.heap.size w2 w' → RFAt w' t f) := fun w' hb => HRF.out.below (HLOW.out.trans (hb.mono HLOW.out.size))
 refine wp_region_eager [(0, true), (1, true), (2, true), (3, true), (4, true), (5, true), (6, true), (7, true), (8, true), (9, true), (10, true), (11, true), (12, true), (13, true), (14, true), (15, true), (16, true), (17, true), (18, true), (19, true), (20, false), (21, true), (22, true), (23, true), (24, true), (25, true)] (by kernel_rfl) (by kernel_rfl) (eagerOpen rfl ?_)
 have hy0 : Below w2.heap.size w2 w2.drew := below_drew1 _ _
 repeat (first
  | ((with_reducible refine eagerLoadAt 27 ?_); refine wpEager_load (by rfl) 62 _ rfl w.heap.size (i * 2) rfl (fA t f) _ (fun w' hb => HLF.out w' hb) Tryz.underlying62 rfl (infoFi _ rfl) ?_; (try simp only [Act.put, zA, zB, zC]); (try refine eagerOpen rfl ?_))
  | ((first | (apply wpEager_take; (· rfl); (· (intro w' hb'; go_simp; try with_reducible rfl))) | refine wpEager_skip (by rfl) ?_ | refine wpEager_off (by rfl) ?_); (try simp only [Act.put, zA, zB, zC]); (try refine eagerOpen rfl ?_))
  | (apply wpEager_take; (· rfl); (· (intro w' hb'; have hk' := (fun w' hb => HC0.out w' hb) w' hb'; go_split_ands; go_simp; try with_reducible rfl)); (try simp only [Act.put, zA, zB, zC]); (try refine eagerOpen rfl ?_))
  | (apply wpEager_take; (· rfl); (· (intro w' hb'; have hk' := (fun w' hb => HC1.out w' hb) w' hb'; go_split_ands; go_simp; try with_reducible rfl)); (try simp only [Act.put, zA, zB, zC]); (try refine eagerOpen rfl ?_)))
 (refine wpEager_op (by rfl) (fun K hK => ?_); go_simp; (refine (rholds_any t f _ (HRW.out _ hy0) HNB.out).mono ?_; rintro e y1 ⟨ph, ch, rfl, ho, hb⟩; have hyl := hy0.trans hb; clear hb ho); refine Shut.out hK _ _ (by assumption) ?_; clear hK K; (try simp only [Act.put, zA, zB, zC]); (try refine eagerOpen rfl ?_))
 repeat (first
  | ((first | (apply wpEager_take; (· rfl); (· (intro w' hb'; go_simp; try with_reducible rfl))) | refine wpEager_skip (by rfl) ?_ | refine wpEager_off (by rfl) ?_); (try simp only [Act.put, zA, zB, zC]); (try refine eagerOpen rfl ?_)))
 refine eagerEnd ?_
 skip
 have hq1 := HQ.out.next hyl
 have hs1 := Below.keepOld hyl HSB.out
 have hz1 := Below.keepOld hyl HZX.out
 have hl1 := HLOW.out.trans (hyl.mono HLOW.out.size)
 clear HQ HSB HZX HLOW HC0 HC1 HSZ
 have HQ := Lib.hid hq1
 have HSB := Lib.hid hs1
 have HZX := Lib.hid hz1
 have HLOW := Lib.hid hl1
 clear hq1 hs1 hz1 hl1 hyl
 clear hy0 HLF HRW
 generalize y1 = w3 at *
 clear d4 d5 d6
 obtain ⟨_, _, hc8, _⟩ := HQ.out.cells
 cases hdn : d.down with
 | true =>
  obtain ⟨s1, s2⟩ := doE_down (i := i) (f := f) (s := .cut m) hdn
  rw [HDX.out] at s1
  rw [HEX.out] at s2
  clear HDX HEX
  subst DX EX
  rw [hdn] at hc8
  clear hdn
  go_upto_region 4 with fail
  clear hc8
  skip
  go_wp2_with (first
   | refine wpList_load_row rfl 65 _ rfl w.heap.size rfl 65 (rdA ts d) (0, 0) _ HQ.out.row Tryz.underlying65 rfl (infoRD _ (rdA_size HQ.out.n3 HQ.out.m3)) ?_
   | refine wpList_store_row rfl 65 _ _ rfl (w.heap.size + 2) (rdA ts d) rfl rfl 65 zD HZX.out (infoRD _ (rdA_size HQ.out.n3 HQ.out.m3)) (by rw [rdA_size HQ.out.n3 HQ.out.m3]; rfl) (rdA_one HQ.out.n3 HQ.out.m3) ?_)
  have HS := Lib.hid (setRow_heap _ _ _ (rdA ts d) _ _ HZX.out)
  refine bodyPost_ret (results_cell_tmp2 rfl _ _ _ _ _ _ _ rfl HS.out Tryz.underlying65 rfl (infoRD _ (rdA_size HQ.out.n3 HQ.out.m3))) rfl ?_
  exact ⟨ts, rfl, HQ.out.done HZX.out (by omega), below_setRow HLOW.out (by omega) _⟩
 | false =>
  rw [hdn] at hc8
  skip
  go_upto_region 6 with (first
   | refine wpList_load_row rfl 65 _ rfl w.heap.size rfl 65 (rdA ts d) (0, 0) _ HQ.out.row Tryz.underlying65 rfl (infoRD _ (rdA_size HQ.out.n3 HQ.out.m3)) ?_
   | refine wpList_store_row rfl 65 _ _ rfl w3.heap.size (rdA ts d) rfl rfl 65 zD (heap_alloc_last _ _) (infoRD _ (rdA_size HQ.out.n3 HQ.out.m3)) (by rw [rdA_size HQ.out.n3 HQ.out.m3]; rfl) (rdA_one HQ.out.n3 HQ.out.m3) ?_)
  try simp only [Act.put]
  clear hc8
  have hws : w.heap.size + 2 < w3.heap.size := (Array.getElem?_eq_some_iff.1 HZX.out).1
  obtain ⟨hq4, hb4⟩ := HQ.out.twin (by omega)
  have hq1 := HQ.out.next hb4
  have hs1 := Below.keepOld hb4 HSB.out
  have hz1 := Below.keepOld hb4 HZX.out
  have hl1 := HLOW.out.trans (hb4.mono HLOW.out.size)
  have hs4 : w3.heap.size < ((w3.alloc (.cells zD 65)).setRow w3.heap.size (rdA ts d)).heap.size := (Array.getElem?_eq_some_iff.1 hq4.row).1
  clear HQ HSB HZX HLOW
  generalize (w3.alloc (.cells zD 65)).setRow w3.heap.size (rdA ts d) = w4 at *
  have HQ1 := Lib.hid hq1
  have HQ2 := Lib.hid hq4
  have HSB := Lib.hid hs1
  have HZX := Lib.hid hz1
  have HLOW := Lib.hid hl1
  have HS4 := Lib.hid hb4
  clear hq4 hq1 hs1 hz1 hl1 hb4
  have hcf := (rdA_file HQ1.out.n3 HQ1.out.m3 i HT.out HF.out).2
  have hkc : Hid (∀ w', Below w3.heap.size w3 w' → w'.cell? ⟨w.heap.size, i * 2 + 1, none⟩ = some (.slice t.sp f.steps.length t.sc)) := fun w' hb => by
   have h3 : w3.heap[w.heap.size]? = some (.cells (rdA ts d) 65 (0, 0)) := by rw [← HS4.out.block _ (by omega)]; exact HQ1.out.row
   rw [cell_of_row _ _ _ _ _ _ (Below.keepOld hb h3)]; exact hcf
  have hkM : Hid (∀ w', Below w3.heap.size w3 w' → w'.rangeAt (w.heap.size + 1) 0 (#[.bool true, .int .i64 (m : Int), .slice none 0 0] : Array Value).toList) := fun w' hb => by
   have h3 : w3.heap[w.heap.size + 1]? = some (.cells (#[.bool true, .int .i64 (m : Int), .slice none 0 0] : Array Value) 112 (0, 0)) := by rw [← HS4.out.block _ (by omega)]; exact HSB.out
   exact row_rangeR (Below.keepOld hb h3)
  clear hcf
  have hi3j : (i : Int) < 3 := by omega
  have HON : Hid (∀ u ∈ rows.flatten, u.oneCell' = true) := one_rows HRS.out HST.out
  have HON2 : Hid (∀ u ∈ (#[.bool true, .int .i64 (m : Int), .slice none 0 0] : Array Value).toList, u.oneCell' = true) := by
   show ∀ u ∈ _, _
   intro u hu
   simp only [List.mem_cons, List.not_mem_nil, or_false] at hu
   rcases hu with rfl | rfl | rfl <;> rfl
  have HK1 : Hid (0 + f.steps.length ≤ 9223372036854775807 ∧ (0 + f.steps.length) * 40 ≤ 140737488355328) := ⟨by have := HFEW.out; omega, by have := HFEW.out; omega⟩
  have HK3 : Hid (f.steps.length + 1 ≤ 9223372036854775807 ∧ (f.steps.length + 1) * 40 ≤ 140737488355328) := ⟨by have := HFEW.out; omega, by have := HFEW.out; omega⟩
  have HK2 : Hid (0 + f.steps.length + 1 ≤ 9223372036854775807 ∧ (0 + f.steps.length + 1) * 40 ≤ 140737488355328) := ⟨by have := HFEW.out; omega, by have := HFEW.out; omega⟩
  refine wp_region_tree (Below w3.heap.size w3) (.take 0 (.take 2 (.take 3 (.take 4 (.take 5 (.take 6 (.take 8 (.take 11 (.two 1 9 (.two 7 9 (.one 9 (.one 10 (.take 12 (.take 13 (.one 14 .nil))))) (.one 7 (.one 10 (.take 12 (.take 13 (.one 14 .nil)))))) (.one 1 (.one 7 (.one 10 (.take 12 (.take 13 (.one 14 .nil)))))))))))))))  (by kernel_rfl) (by kernel_rfl) (HS4.out.trans ((below_drew1 _ _).mono HS4.out.size)) ?_
  have hyd : Below w4.heap.size w4 w4.drew := below_drew1 _ _
  have hzd : w3.heap.size < w4.drew.heap.size := hs4
  have hq1 := HQ1.out.next hyd
  have hq4 := HQ2.out.next hyd
  have hs1 := Below.keepOld hyd HSB.out
  have hz1 := Below.keepOld hyd HZX.out
  have hl1 := HLOW.out.trans (hyd.mono HLOW.out.size)
  have hsd := HS4.out.trans (hyd.mono HS4.out.size)
  clear HQ1 HQ2 HSB HZX HLOW HS4 hyd hs4
  generalize w4.drew = wd at *
  have HQ1 := Lib.hid hq1
  have HQ2 := Lib.hid hq4
  have HZX := Lib.hid hz1
  have HLOW := Lib.hid hl1
  have HSD := Lib.hid hsd
  clear hq1 hq4 hs1 hz1 hl1 hsd
  have hSL : Hid (∀ w', Below wd.heap.size wd w' → Sl w' t.sp f.steps.length t.sc 3 rows.flatten) := fun w' hb => HRS.out.sl.below (HLOW.out.trans (hb.mono HLOW.out.size))
  iterate 5 ((apply tree_take; (· rfl); (· rfl); (· (intro w' hb'; go_simp; try with_reducible rfl)); try simp only [Act.put, zA, zB, zC]))
  (apply tree_take; (· rfl); (· rfl); (· (intro w' hb'; have hk' := (hkc.out) w' hb'; go_simp; try with_reducible rfl)); try simp only [Act.put, zA, zB, zC])
  refine tree_load rfl (by rfl) 112 _ rfl (w.heap.size + 1) 0 rfl (#[.bool true, .int .i64 (m : Int), .slice none 0 0] : Array Value) _ (fun w' hb => hkM.out w' hb) Tryz.underlying112 rfl (infoSt _ rfl) ?_
  try simp only [Act.put, zA, zB, zC]
  iterate 1 ((apply tree_take; (· rfl); (· rfl); (· (intro w' hb'; go_simp; try with_reducible rfl)); try simp only [Act.put, zA, zB, zC]))
  have hb0 : Below wd.heap.size wd (wd.alloc (.cells #[] 112)) := Below.allocs _ _
  have hb5 : Below wd.heap.size wd (wd.alloc (.cells (#[.bool true, .int .i64 (m : Int), .slice none 0 0] : Array Value) 112)) := Below.allocs _ _
  refine tree_key (fun a0 a' Y => ∃ (v41 v47 v49 : Value) (p9 : Option Addr) (c9 : Nat), a' = ((((a0.put (some 41) v41).put (some 47) v47).put (some 49) v49).put (some 50) (.slice p9 (f.steps.length + 1) c9)) ∧ Below wd.heap.size wd Y ∧ Y.ownsRow wd.heap.size 112 3 (.slice p9 (f.steps.length + 1) c9) (f.steps.length + 1) (rows.flatten ++ (#[.bool true, .int .i64 (m : Int), .slice none 0 0] : Array Value).toList)) (.take 12 (.take 13 (.one 14 .nil))) ?_ ?_
  ·rintro a' wf ⟨v41, v47, v49, p9, c9, ha, hbf, o9⟩
   rw [ha]
   clear ha a'
   try simp only [Act.put, zA, zB, zC]
   skip
   iterate 2 ((apply tree_take; (· rfl); (· rfl); (· (intro w' hb'; go_simp; try with_reducible rfl)); try simp only [Act.put, zA, zB, zC]))
   have hcf := (rdA_file HQ2.out.n3 HQ2.out.m3 i HT.out HF.out).2
   have hq6 := HQ2.out.next hbf
   have hc14 : wf.cell? ⟨w3.heap.size, i * 2 + 1, none⟩ = some (.slice t.sp f.steps.length t.sc) := by rw [cell_of_row _ _ _ _ _ _ hq6.row]; exact hcf
   have hfz14 : wf.frozen? ⟨w3.heap.size, i * 2 + 1, none⟩ = false := frozen_of_row _ _ _ _ _ hq6.row
   have hsn : Rb w.heap.size wf ⟨t.kp, t.kc, p9, c9⟩ (f.take (St.cut m)) := Rb.snoc HRB.out HSR.out rfl HTK.out (by have := HFEW.out; omega) (HLOW.out.trans (hbf.mono HLOW.out.size)) o9
   obtain ⟨hq7, hk7⟩ := hq6.steps i hi HT.out HF.out p9 c9 (f.take (St.cut m)) rfl hsn HNT.out HFU.out
   rw [take_len] at hq7 hk7
   have hst7 : Below w3.heap.size w3 (wf.setCell ⟨w3.heap.size, i * 2 + 1, none⟩ (.slice p9 (f.steps.length + 1) c9)) := (HSD.out.trans (hbf.mono HSD.out.size)).trans (Turns.below ((Turns.refl (fun k => k = w3.heap.size) wf).setCell (p := ⟨w3.heap.size, i * 2 + 1, none⟩) (fun _ => rfl) _) (by have := hbf.size; omega) (fun _ e => by omega))
   refine tree_one rfl (by rfl) (fun K hK => ?_)
   go_simp
   refine Shut.out hK _ _ hst7 ?_
   clear hK K
   try simp only [Act.put, zA, zB, zC]
   refine tree_nil ?_
   have hno : ∀ k : Nat, k < w3.heap.size → (wf.setCell ⟨w3.heap.size, i * 2 + 1, none⟩ (.slice p9 (f.steps.length + 1) c9)).heap[k]? = wd.heap[k]? := fun k hk => by rw [hst7.block k hk, HSD.out.block k hk]
   have hq8 := (HQ1.out.next hbf).beside hk7 (by rw [hno _ (by omega)]; exact ((hbf.block _ (by omega)).symm))
   have hz8 : (wf.setCell ⟨w3.heap.size, i * 2 + 1, none⟩ (.slice p9 (f.steps.length + 1) c9)).heap[w.heap.size + 2]? = some (.cells zD 65 (0, 0)) := by rw [hno _ (by omega)]; exact HZX.out
   have hl8 := (HLOW.out.trans (hbf.mono HLOW.out.size)).trans (Turns.below ((Turns.refl (fun k => k = w3.heap.size) wf).setCell (p := ⟨w3.heap.size, i * 2 + 1, none⟩) (fun _ => rfl) (.slice p9 (f.steps.length + 1) c9)) (by have := hbf.size; omega) (fun _ e => by omega))
   have hw8 : w3.heap.size < (wf.setCell ⟨w3.heap.size, i * 2 + 1, none⟩ (.slice p9 (f.steps.length + 1) c9)).heap.size := (Array.getElem?_eq_some_iff.1 hq7.row).1
   clear hc14 hfz14 hcf hsn hq6 hno hst7 hk7 o9 HQ1 HQ2 HZX HLOW HSD hSL hkc hkM
   generalize wf.setCell ⟨w3.heap.size, i * 2 + 1, none⟩ (.slice p9 (f.steps.length + 1) c9) = w7 at *
   have HQ := Lib.hid hq8
   have HQ2 := Lib.hid hq7
   have HZX := Lib.hid hz8
   have HLOW := Lib.hid hl8
   clear hq8 hq7 hz8 hl8
   have hus := HUT.out
   obtain ⟨DN, hDN⟩ : ∃ DN, setF d i (f.take (St.cut m)) = DN := ⟨_, rfl⟩
   obtain ⟨TN, hTN⟩ : ∃ TN, ts.set i ⟨t.kp, t.kc, p9, c9⟩ = TN := ⟨_, rfl⟩
   have hq2 := HQ2.out
   rw [hDN, hTN] at hq2
   have hE1 := @doE_full d i f (St.cut m) hdn
   have hE2 := @doE_ok d i f (St.cut m) hdn
   rw [hDN] at hus hE2
   rw [← hus, HDX.out, HEX.out] at hE1 hE2
   generalize usedL d.fs - f.need + max f.need ((St.cut m).size f.now.length) = UN at hus
   have HE1 := Lib.hid hE1
   have HE2 := Lib.hid hE2
   have hgs : Hid (w.heap.size + 2 < w3.heap.size) := hws
   clear hE1 hE2 HQ2 HUT HTK HNT HFU HF HT HRF HRS HST HSR HRB HNB HFEW HRO HDX HEX hus hDN hTN HON HON2 HK1 HK2 HK3
   have HQ2 := Lib.hid hq2
   clear hq2
   obtain ⟨hc6, _, _, _⟩ := HQ.out.cells
   have HRM : Hid (∀ w', Below w7.heap.size w7 w' → w'.cell? ⟨w.heap.size, 6, none⟩ = some (.int .i64 (d.room : Int))) := fun w' hb => (HQ.out.next hb).cells.1
   have HLA : Hid (∀ w', Below w7.heap.size w7 w' → w'.rangeAt w3.heap.size 0 (rdA TN DN).toList) := fun w' hb => row_rangeR (Below.keepOld hb HQ2.out.row)
   clear hc6
   go_upto_region 7 with fail
   refine wp_region_eager [(0, true), (2, true), (3, true), (1, false), (4, true)] (by kernel_rfl) (by kernel_rfl) (eagerOpen rfl ?_)
   have hy0 : Below w7.heap.size w7 w7.drew := below_drew1 _ _
   repeat (first
    | ((with_reducible refine eagerLoadAt 8 ?_); refine wpEager_load (by rfl) 65 _ rfl w3.heap.size 0 rfl (rdA TN DN) _ (fun w' hb => HLA.out w' hb) Tryz.underlying65 rfl (infoRD _ (rdA_size HQ2.out.n3 HQ2.out.m3)) ?_; (try simp only [Act.put, zA, zB, zC]); (try refine eagerOpen rfl ?_))
    | ((first | (apply wpEager_take; (· rfl); (· (intro w' hb'; go_simp; try with_reducible rfl))) | refine wpEager_skip (by rfl) ?_ | refine wpEager_off (by rfl) ?_); (try simp only [Act.put, zA, zB, zC]); (try refine eagerOpen rfl ?_))
    | (apply wpEager_take; (· rfl); (· (intro w' hb'; have hk' := (fun w' hb => HRM.out w' hb) w' hb'; go_split_ands; go_simp; try with_reducible rfl)); (try simp only [Act.put, zA, zB, zC]); (try refine eagerOpen rfl ?_)))
   (refine wpEager_op (by rfl) (fun K hK => ?_); go_simp; (refine (rused_any TN DN _ (HQ2.out.next hy0).at).mono ?_; rintro e y1 ⟨rfl, hb⟩; have hy1 := hy0.trans hb; clear hb); refine Shut.out hK _ _ (by assumption) ?_; clear hK K; (try simp only [Act.put, zA, zB, zC]); (try refine eagerOpen rfl ?_))
   by_cases hr : d.room < usedL DN.fs
   ·obtain ⟨s1, s2⟩ := HE1.out hr
    subst DX EX
    have hd1 : decide ((d.room : Int) < (usedL DN.fs : Int)) = true := decide_eq_true (by omega)
    have hd2 : decide (d.room < usedL DN.fs) = true := decide_eq_true hr
    repeat (first
     | ((first | (apply wpEager_take; (· rfl); (· (intro w' hb'; go_simp; try with_reducible rfl))) | refine wpEager_skip (by rfl) ?_ | refine wpEager_off (by rfl) ?_); (try simp only [Act.put, zA, zB, zC]); (try refine eagerOpen rfl ?_)))
    refine eagerEnd ?_
    have hq1 := HQ.out.next hy1
    have hz1 := Below.keepOld hy1 HZX.out
    have hl1 := HLOW.out.trans (hy1.mono HLOW.out.size)
    clear HQ HQ2 HZX HLOW HRM HLA hy0 hy1 HE1 HE2
    have HQ := Lib.hid hq1
    have HZX := Lib.hid hz1
    have HLOW := Lib.hid hl1
    clear hq1 hz1 hl1
    go_upto_region 8 with fail
    skip
    go_wp2_with (first
     | refine wpList_load_row rfl 65 _ rfl w.heap.size rfl 65 (rdA ts d) (0, 0) _ HQ.out.row Tryz.underlying65 rfl (infoRD _ (rdA_size HQ.out.n3 HQ.out.m3)) ?_
     | refine wpList_store_row rfl 65 _ _ rfl (w.heap.size + 2) (rdA ts d) rfl rfl 65 zD HZX.out (infoRD _ (rdA_size HQ.out.n3 HQ.out.m3)) (by rw [rdA_size HQ.out.n3 HQ.out.m3]; rfl) (rdA_one HQ.out.n3 HQ.out.m3) ?_)
    have HS := Lib.hid (setRow_heap _ _ _ (rdA ts d) _ _ HZX.out)
    refine bodyPost_ret (results_cell_tmp2 rfl _ _ _ _ _ _ _ rfl HS.out Tryz.underlying65 rfl (infoRD _ (rdA_size HQ.out.n3 HQ.out.m3))) rfl ?_
    exact ⟨ts, rfl, HQ.out.done HZX.out (by omega), below_setRow HLOW.out (by omega) _⟩
   ·have HSS := Lib.hid (HE2.out hr)
    have hd1 : decide ((d.room : Int) < (usedL DN.fs : Int)) = false := decide_eq_false (by omega)
    have hd2 : decide (d.room < usedL DN.fs) = false := decide_eq_false hr
    repeat (first
     | ((first | (apply wpEager_take; (· rfl); (· (intro w' hb'; go_simp; try with_reducible rfl))) | refine wpEager_skip (by rfl) ?_ | refine wpEager_off (by rfl) ?_); (try simp only [Act.put, zA, zB, zC]); (try refine eagerOpen rfl ?_)))
    refine eagerEnd ?_
    have hq1 := HQ2.out.next hy1
    have hz1 := Below.keepOld hy1 HZX.out
    have hl1 := HLOW.out.trans (hy1.mono HLOW.out.size)
    clear HQ HQ2 HZX HLOW HRM HLA hy0 hy1 HE1 HE2 hr
    have HQ2 := Lib.hid hq1
    have HZX := Lib.hid hz1
    have HLOW := Lib.hid hl1
    clear hq1 hz1 hl1
    have HBU := Lib.hid (rburn_any TN DN y1 HQ2.out.n3 HQ2.out.m3 HQ2.out.fuse1)
    go_upto_region 9 with fail
    go_wp2_with (refine wpList_load_row rfl 65 _ rfl w3.heap.size rfl 65 (rdA TN DN) (0, 0) _ HQ2.out.row Tryz.underlying65 rfl (infoRD _ (rdA_size HQ2.out.n3 HQ2.out.m3)) ?_)
    refine HBU.out.mono ?_
    rintro e w8 ⟨rfl, hb8⟩
    have hq3 := HQ2.out.next hb8
    obtain ⟨hq4, hk4⟩ := hq3.burn
    obtain ⟨s1, s2⟩ := HSS.out
    rw [← s1] at s2 hq4 hk4 ⊢
    have HS2 := Lib.hid s2
    clear s1 s2 HSS
    have HQ3 := Lib.hid hq3
    have HD3 : Hid (DX.fs.length = 3) := hq4.m3
    have hz4 : (w8.setRow w3.heap.size (rdA TN DX)).heap[w.heap.size + 2]? = some (.cells zD 65 (0, 0)) := by rw [setRow_other _ _ _ _ (by omega)]; exact Below.keepOld hb8 HZX.out
    have HZ5 := Lib.hid hz4
    have HL5 : Hid (Below w.heap.size w (w8.setRow w3.heap.size (rdA TN DX))) := below_setRow (HLOW.out.trans (hb8.mono HLOW.out.size)) (by omega) _
    have HQ := Lib.hid hq4
    clear HQ2 HZX HLOW HBU hb8 hq3 hq4 hk4 hz4
    go_upto_region 10 with (refine wpList_store_row rfl 65 _ _ rfl w3.heap.size (rdA TN DX) rfl rfl 65 (rdA TN DN) HQ3.out.row (infoRD _ (rdA_size HQ3.out.n3 HD3.out)) (by rw [rdA_size HQ3.out.n3 HD3.out, rdA_size HQ3.out.n3 HQ3.out.m3]) (rdA_one HQ3.out.n3 HD3.out) ?_)
    try simp only [Act.put]
    clear HQ3
    generalize w8.setRow w3.heap.size (rdA TN DX) = w9 at *
    have HZX := HZ5
    have HLOW := HL5
    clear HZ5 HL5
    have HAN : Hid ((if DX.down = true then (18 : Int) else 0) = EX) := HS2.out.symm
    clear HS2 hd1 hd2
    skip
    have HLA : Hid (∀ w', Below w9.heap.size w9 w' → w'.rangeAt w3.heap.size 0 (rdA TN DX).toList) := fun w' hb j v hv => by rw [cell_of_row _ _ _ _ _ _ (Below.keepOld hb HQ.out.row), ← Array.getElem?_toList, Nat.zero_add]; exact hv
    go_upto_region 10 with fail
    refine wp_region_eager_t (Below w9.heap.size w9) [0, 1] [(0, true), (1, true), (2, false)] [3, 4] (by kernel_rfl) (by kernel_rfl) ?_ (eagerTOpen rfl ?_)
    ·exact below_drew1 _ _
    have hy0 : Below w9.heap.size w9 w9.drew := below_drew1 _ _
    repeat (first
     | ((with_reducible refine eagerTLoadAt 8 ?_); refine wpEagerT_load (by rfl) 65 _ rfl w3.heap.size 0 rfl (rdA TN DX) _ (fun w' hb => HLA.out w' hb) Tryz.underlying65 rfl (infoRD _ (rdA_size HQ.out.n3 HQ.out.m3)) ?_; (try simp only [Act.put, zA, zB, zC]); (try refine eagerTOpen rfl ?_))
     | ((first | (apply wpEagerT_take; (· rfl); (· (intro w' hb'; go_simp; try with_reducible rfl))) | refine wpEagerT_skip (by rfl) ?_); (try simp only [Act.put, zA, zB, zC]); (try refine eagerTOpen rfl ?_)))
    (refine wpEagerT_op (by rfl) (fun K hK => ?_); go_simp; (refine (ranswer2 TN DX EX HAN.out _ HQ.out.n3 HQ.out.m3).mono ?_; rintro e y1 ⟨rfl, hb⟩; have hy1 := hy0.trans hb; clear hb); refine Shut.out hK _ _ (by assumption) ?_; clear hK K; (try simp only [Act.put, zA, zB, zC]); (try refine eagerTOpen rfl ?_))
    refine eagerTEnd (tail2 rfl rfl ?_)
    have hq1 := HQ.out.next hy1
    have hz1 := Below.keepOld hy1 HZX.out
    have hl1 := HLOW.out.trans (hy1.mono HLOW.out.size)
    clear HQ HZX HLOW HLA hy0 hy1
    have HQ := Lib.hid hq1
    have HZX := Lib.hid hz1
    have HLOW := Lib.hid hl1
    clear hq1 hz1 hl1
    go_wp2_with (refine wpList_store_row rfl 65 _ _ rfl (w.heap.size + 2) (rdA TN DX) rfl rfl 65 zD HZX.out (infoRD _ (rdA_size HQ.out.n3 HQ.out.m3)) (by rw [rdA_size HQ.out.n3 HQ.out.m3]; rfl) (rdA_one HQ.out.n3 HQ.out.m3) ?_)
    refine noPanic_end ?_
    go_wp2_with fail
    have HS := Lib.hid (setRow_heap _ _ _ (rdA TN DX) _ _ HZX.out)
    refine bodyPost_ret (results_cell_tmp2 rfl _ _ _ _ _ _ _ rfl HS.out Tryz.underlying65 rfl (infoRD _ (rdA_size HQ.out.n3 HQ.out.m3))) rfl ?_
    exact ⟨TN, rfl, HQ.out.done HZX.out (by omega), below_setRow HLOW.out (by omega) _⟩
  intro KEY
  refine tree_two ?_ (?_)
  ·refine tree_one rfl (by rfl) (fun K hK => ?_)
   go_simp
   refine Shut.out hK _ _ (HSD.out.trans (hb0.mono HSD.out.size)) ?_
   clear hK K
   try simp only [Act.put, zA, zB, zC]
   have o1 : (wd.alloc (.cells #[] 112)).ownsRow wd.heap.size 112 3 (.slice (some ⟨wd.heap.size, 0, none⟩) 0 0) 0 [] := own_made0 wd _ _ _ _ rfl (Nat.le_refl _)
   have hz1 : wd.heap.size ≤ (wd.alloc (.cells #[] 112)).heap.size := hb0.size
   generalize wd.alloc (.cells #[] 112) = wa at *
   refine tree_two ?_ ?_
   ·refine tree_one rfl (by rfl) (fun K hK => oper_of_list rfl ?_)
    refine wpList_append_nx rfl _ _ 60 rfl (base := wd.heap.size) Tryz.underlying60 infoSteps (by rfl) (by omega) rfl o1 rfl (hSL.out _ hb0) HON.out HK1.out hz1 ?_
    intro p2 c2 w5 o2 hg2 hnx2 _
    rw [Nat.zero_add f.steps.length] at *
    have hb2 : Below wd.heap.size wd w5 := hb0.grown hg2 hz1 (fun i hi => (o1.lt i hi).1)
    refine only_end (Shut.out hK _ _ (HSD.out.trans (hb2.mono HSD.out.size)) ?_)
    clear hK K
    try simp only [Act.put, zA, zB, zC]
    have hz2 : wd.heap.size ≤ w5.heap.size := hb2.size
    refine tree_one rfl (by rfl) (fun K hK => oper_of_list rfl ?_)
    refine wpList_buildOne rfl 60 112 _ rfl (#[.bool true, .int .i64 (m : Int), .slice none 0 0] : Array Value) rfl 3 Tryz.underlying60 (by kernel_rfl) (by omega) (by omega) rfl ?_
    have hb6 := hb2.alloc hz2 (.cells (#[.bool true, .int .i64 (m : Int), .slice none 0 0] : Array Value) 112)
    have o6 := own_below_alloc o2 (.cells (#[.bool true, .int .i64 (m : Int), .slice none 0 0] : Array Value) 112)
    have r6 := heap_alloc_last w5 (.cells (#[.bool true, .int .i64 (m : Int), .slice none 0 0] : Array Value) 112)
    have hz6 : wd.heap.size ≤ (w5.alloc (.cells (#[.bool true, .int .i64 (m : Int), .slice none 0 0] : Array Value) 112)).heap.size := hb6.size
    refine only_end (Shut.out hK _ _ (HSD.out.trans (hb6.mono HSD.out.size)) ?_)
    clear hK K
    try simp only [Act.put, zA, zB, zC]
    generalize w5.alloc (.cells (#[.bool true, .int .i64 (m : Int), .slice none 0 0] : Array Value) 112) = w6 at *
    refine tree_one rfl (by rfl) (fun K hK => oper_of_list rfl ?_)
    refine wpList_append_nx rfl _ _ 60 rfl (base := wd.heap.size) Tryz.underlying60 infoSteps (by rfl) (by omega) rfl o6 rfl (row_sl r6 3 rfl) HON2.out HK3.out hz6 ?_
    intro p9 c9 wf o9 hg9 hnx9 _
    have hbf : Below wd.heap.size wd wf := hb6.grown hg9 hz6 (fun i hi => (o6.lt i hi).1)
    refine only_end (Shut.out hK _ _ (HSD.out.trans (hbf.mono HSD.out.size)) ?_)
    clear hK K
    try simp only [Act.put, zA, zB, zC]
    refine KEY _ _ ?_
    try simp only [Act.put, zA, zB, zC]
    exact ⟨_, _, _, p9, c9, rfl, hbf, o9⟩
   ·refine tree_one rfl (by rfl) (fun K hK => oper_of_list rfl ?_)
    refine wpList_buildOne rfl 60 112 _ rfl (#[.bool true, .int .i64 (m : Int), .slice none 0 0] : Array Value) rfl 3 Tryz.underlying60 (by kernel_rfl) (by omega) (by omega) rfl ?_
    have hb2 := hb0.alloc hz1 (.cells (#[.bool true, .int .i64 (m : Int), .slice none 0 0] : Array Value) 112)
    have o2 := own_below_alloc o1 (.cells (#[.bool true, .int .i64 (m : Int), .slice none 0 0] : Array Value) 112)
    have r2 := heap_alloc_last wa (.cells (#[.bool true, .int .i64 (m : Int), .slice none 0 0] : Array Value) 112)
    have hz2 : wd.heap.size ≤ (wa.alloc (.cells (#[.bool true, .int .i64 (m : Int), .slice none 0 0] : Array Value) 112)).heap.size := hb2.size
    have hne : wa.heap.size ≠ wd.heap.size := fun e => by have := (o1.lt wd.heap.size rfl).2; omega
    refine only_end (Shut.out hK _ _ (HSD.out.trans (hb2.mono HSD.out.size)) ?_)
    clear hK K
    try simp only [Act.put, zA, zB, zC]
    generalize wa.alloc (.cells (#[.bool true, .int .i64 (m : Int), .slice none 0 0] : Array Value) 112) = wc at *
    refine tree_one rfl (by rfl) (fun K hK => oper_of_list rfl ?_)
    refine wpList_append_nx rfl _ _ 60 rfl (base := wd.heap.size) Tryz.underlying60 infoSteps (by rfl) (by omega) rfl o2 rfl (hSL.out _ hb2) HON.out HK1.out hz2 ?_
    intro p2 c2 w6 o6 hg2 hnx2 _
    rw [Nat.zero_add f.steps.length] at *
    rw [List.nil_append] at o6
    have hb6 : Below wd.heap.size wd w6 := hb2.grown hg2 hz2 (fun i hi => (o2.lt i hi).1)
    have r6 : w6.heap[wa.heap.size]? = some (.cells (#[.bool true, .int .i64 (m : Int), .slice none 0 0] : Array Value) 112 (0, 0)) := by
     rw [hg2.block _ (Array.getElem?_eq_some_iff.1 r2).1 (fun e => hne (by injection e))]
     exact r2
    refine only_end (Shut.out hK _ _ (HSD.out.trans (hb6.mono HSD.out.size)) ?_)
    clear hK K
    try simp only [Act.put, zA, zB, zC]
    have hz6 : wd.heap.size ≤ w6.heap.size := hb6.size
    refine tree_one rfl (by rfl) (fun K hK => oper_of_list rfl ?_)
    refine wpList_append_nx rfl _ _ 60 rfl (base := wd.heap.size) Tryz.underlying60 infoSteps (by rfl) (by omega) rfl o6 rfl (row_sl r6 3 rfl) HON2.out HK3.out hz6 ?_
    intro p9 c9 wf o9 hg9 hnx9 _
    have hbf : Below wd.heap.size wd wf := hb6.grown hg9 hz6 (fun i hi => (o6.lt i hi).1)
    refine only_end (Shut.out hK _ _ (HSD.out.trans (hbf.mono HSD.out.size)) ?_)
    clear hK K
    try simp only [Act.put, zA, zB, zC]
    refine KEY _ _ ?_
    try simp only [Act.put, zA, zB, zC]
    exact ⟨_, _, _, p9, c9, rfl, hbf, o9⟩
  ·refine tree_one rfl (by rfl) (fun K hK => oper_of_list rfl ?_)
   refine wpList_buildOne rfl 60 112 _ rfl (#[.bool true, .int .i64 (m : Int), .slice none 0 0] : Array Value) rfl 3 Tryz.underlying60 (by kernel_rfl) (by omega) (by omega) rfl ?_
   have r1 := heap_alloc_last wd (.cells (#[.bool true, .int .i64 (m : Int), .slice none 0 0] : Array Value) 112)
   have hz1 : wd.heap.size ≤ (wd.alloc (.cells (#[.bool true, .int .i64 (m : Int), .slice none 0 0] : Array Value) 112)).heap.size := hb5.size
   refine only_end (Shut.out hK _ _ (HSD.out.trans (hb5.mono HSD.out.size)) ?_)
   clear hK K
   try simp only [Act.put, zA, zB, zC]
   generalize wd.alloc (.cells (#[.bool true, .int .i64 (m : Int), .slice none 0 0] : Array Value) 112) = wa at *
   refine tree_one rfl (by rfl) (fun K hK => ?_)
   go_simp
   have hb2 := hb5.alloc hz1 (.cells #[] 112)
   refine Shut.out hK _ _ (HSD.out.trans (hb2.mono HSD.out.size)) ?_
   clear hK K
   try simp only [Act.put, zA, zB, zC]
   have o2 : (wa.alloc (.cells #[] 112)).ownsRow wd.heap.size 112 3 (.slice (some ⟨wa.heap.size, 0, none⟩) 0 0) 0 [] := own_made0 wa _ _ _ _ rfl hz1
   have r2 := block_old (.cells #[] 112) r1
   have hne : wd.heap.size ≠ wa.heap.size := fun e => by have := (Array.getElem?_eq_some_iff.1 r1).1; omega
   have hz2 : wd.heap.size ≤ (wa.alloc (.cells #[] 112)).heap.size := hb2.size
   generalize wa.alloc (.cells #[] 112) = wc at *
   refine tree_one rfl (by rfl) (fun K hK => oper_of_list rfl ?_)
   refine wpList_append_nx rfl _ _ 60 rfl (base := wd.heap.size) Tryz.underlying60 infoSteps (by rfl) (by omega) rfl o2 rfl (hSL.out _ hb2) HON.out HK1.out hz2 ?_
   intro p2 c2 w6 o6 hg2 hnx2 _
   rw [Nat.zero_add f.steps.length] at *
   rw [List.nil_append] at o6
   have hb6 : Below wd.heap.size wd w6 := hb2.grown hg2 hz2 (fun i hi => (o2.lt i hi).1)
   have r6 : w6.heap[wd.heap.size]? = some (.cells (#[.bool true, .int .i64 (m : Int), .slice none 0 0] : Array Value) 112 (0, 0)) := by
    rw [hg2.block _ (Array.getElem?_eq_some_iff.1 r2).1 (fun e => hne (by injection e))]
    exact r2
   refine only_end (Shut.out hK _ _ (HSD.out.trans (hb6.mono HSD.out.size)) ?_)
   clear hK K
   try simp only [Act.put, zA, zB, zC]
   have hz6 : wd.heap.size ≤ w6.heap.size := hb6.size
   refine tree_one rfl (by rfl) (fun K hK => oper_of_list rfl ?_)
   refine wpList_append_nx rfl _ _ 60 rfl (base := wd.heap.size) Tryz.underlying60 infoSteps (by rfl) (by omega) rfl o6 rfl (row_sl r6 3 rfl) HON2.out HK3.out hz6 ?_
   intro p9 c9 wf o9 hg9 hnx9 _
   have hbf : Below wd.heap.size wd wf := hb6.grown hg9 hz6 (fun i hi => (o6.lt i hi).1)
   refine only_end (Shut.out hK _ _ (HSD.out.trans (hbf.mono HSD.out.size)) ?_)
   clear hK K
   try simp only [Act.put, zA, zB, zC]
   refine KEY _ _ ?_
   try simp only [Act.put, zA, zB, zC]
   exact ⟨_, _, _, p9, c9, rfl, hbf, o9⟩
end Go.Proofs.YtnejjfglkindjaaGreatDoor.Rk
namespace Go.Proofs.YtnejjfglkindjaaGreatDoor.Rk
open Go.RowKit Go.Mir Go.Mir.Parts Dk
set_option maxRecDepth 100000 in
set_option maxHeartbeats 1600000 in
theorem rcut_of (ts : List RF) (d d' : DD) (ev : Int) (i z : Int) (w : World) (h1 : ts.length = 3) (h2 : d.fs.length = 3)
  (HD : ∀ w1, Below w.heap.size w w1 → Calls Tryz.prog 48 #[.agg (rdA ts d), .int .i64 i, .agg #[.bool true, .int .i64 z, .slice none 0 0]] w1 (ROut d' ev w1)) :
  Calls Tryz.prog 103 #[.agg (rdA ts d), .int .i64 i, .int .i64 z] w (ROut d' ev w) := by
 have hz := zeroD
 obtain ⟨q1, q2, q3, q4⟩ := boxes w ts d
 have HROW := Lib.hid q1
 have HZX := Lib.hid q2
 have HLOW := Lib.hid q4
 clear q1 q2 q3 q4
 have HDO := Lib.hid HD
 have H1 := Lib.hid h1
 have H2 := Lib.hid h2
 clear HD h1 h2
 go_enter Tryz.func103, Tryz.ntmps103
 go_upto_region 1 with fail
 generalize (w.alloc (.cells (rdA ts d) 65)).alloc (.cells zD 65) = w2 at *
 go_wp2_with (refine wpList_load_row rfl 65 _ rfl w.heap.size rfl 65 (rdA ts d) (0, 0) _ HROW.out Tryz.underlying65 rfl (infoRD _ (rdA_size H1.out H2.out)) ?_)
 refine (HDO.out _ HLOW.out).mono ?_
 rintro e y1 ⟨TS, rfl, hrd, hy1⟩
 have HQ := Lib.hid hrd
 have hz1 := Below.keepOld hy1 HZX.out
 have hl1 := HLOW.out.trans (hy1.mono HLOW.out.size)
 clear HZX HLOW hy1 HDO hrd HROW
 have HZX := Lib.hid hz1
 have HLOW := Lib.hid hl1
 clear hz1 hl1
 go_wp2_with (refine wpList_store_row rfl 65 _ _ rfl (w.heap.size + 1) (rdA TS d') rfl rfl 65 zD HZX.out (infoRD _ (rdA_size HQ.out.n3 HQ.out.m3)) (by rw [rdA_size HQ.out.n3 HQ.out.m3]; rfl) (rdA_one HQ.out.n3 HQ.out.m3) ?_)
 have HS := Lib.hid (setRow_heap _ _ _ (rdA TS d') _ _ HZX.out)
 refine bodyPost_ret (results_cell_tmp2 rfl _ _ _ _ _ _ _ rfl HS.out Tryz.underlying65 rfl (infoRD _ (rdA_size HQ.out.n3 HQ.out.m3))) rfl ?_
 exact ⟨TS, rfl, HQ.out.step (KR.of_turn (turns_setRow _ _ _) HZX.out), below_setRow HLOW.out (by omega) _⟩
set_option maxRecDepth 100000 in
set_option maxHeartbeats 1600000 in
theorem rappend_of (ts : List RF) (d d' : DD) (ev : Int) (i : Int) (p : Option Addr) (B : List UInt8) (c : Nat) (w : World) (h1 : ts.length = 3) (h2 : d.fs.length = 3) (hb : Bs w p B.length c B) (hl : B.length ≤ 140737488355327)
  (HD : ∀ w1 q k, Below w.heap.size w w1 → (∀ y, KR 0 w1 y → Bs y q B.length k B) → Calls Tryz.prog 48 #[.agg (rdA ts d), .int .i64 i, .agg #[.bool false, .int .i64 0, .slice q B.length k]] w1 (ROut d' ev w1)) :
  Calls Tryz.prog 25 #[.agg (rdA ts d), .int .i64 i, .slice p B.length c] w (ROut d' ev w) := by
 have hz := zeroD
 obtain ⟨q1, q2, q3, q4⟩ := boxes w ts d
 have HROW := Lib.hid q1
 have HZX := Lib.hid q2
 have HLOW := Lib.hid q4
 clear q1 q2 q3 q4
 have HDO := Lib.hid HD
 have H1 := Lib.hid h1
 have H2 := Lib.hid h2
 have HBS := Lib.hid (hb.below HLOW.out)
 clear HD h1 h2 hb
 go_enter Tryz.func25, Tryz.ntmps25
 go_upto_region 1 with fail
 generalize (w.alloc (.cells (rdA ts d) 65)).alloc (.cells zD 65) = w2 at *
 have HLA : Hid (∀ w', Below w2.heap.size w2 w' → w'.rangeAt w.heap.size 0 (rdA ts d).toList) := fun w' hb => row_rangeR (Below.keepOld hb HROW.out)
 refine wp_region_eager_t (Below w2.heap.size w2) [0, 1, 3, 5, 7, 8] [(0, true), (1, true), (3, true), (2, false), (4, false), (5, true), (6, false), (7, true), (8, true)] [9, 10] (by kernel_rfl) (by kernel_rfl) ?_ (eagerTOpen rfl ?_)
 ·exact below_drew1 _ _
 have hy0 : Below w2.heap.size w2 w2.drew := below_drew1 _ _
 repeat (first
  | ((with_reducible refine eagerTLoadAt 3 ?_); refine wpEagerT_load (by rfl) 65 _ rfl w.heap.size 0 rfl (rdA ts d) _ (fun w' hb => HLA.out w' hb) Tryz.underlying65 rfl (infoRD _ (rdA_size H1.out H2.out)) ?_; (try simp only [Act.put, zA, zB, zC]); (try refine eagerTOpen rfl ?_))
  | ((first | (apply wpEagerT_take; (· rfl); (· (intro w' hb'; go_simp; try with_reducible rfl))) | refine wpEagerT_skip (by rfl) ?_); (try simp only [Act.put, zA, zB, zC]); (try refine eagerTOpen rfl ?_)))
 have hs0 : w2.heap.size ≤ w2.drew.heap.size := hy0.size
 generalize w2.drew = wd at *
 have hb0 := hy0.alloc hs0 (.cells #[] 5)
 have o1 : (wd.alloc (.cells #[] 5)).ownsRow w2.heap.size 5 1 (.slice (some ⟨wd.heap.size, 0, none⟩) 0 0) 0 [] := own_made0 wd _ _ _ _ rfl hs0
 (refine wpEagerT_op (by rfl) (fun K hK => ?_); go_simp; (skip); refine Shut.out hK _ _ (by assumption) ?_; clear hK K; (try simp only [Act.put, zA, zB, zC]); (try refine eagerTOpen rfl ?_))
 have hs1 : w2.heap.size ≤ (wd.alloc (.cells #[] 5)).heap.size := hb0.size
 generalize wd.alloc (.cells #[] 5) = wa at *
 (refine wpEagerT_op (by rfl) (fun K hK => oper_of_list rfl ?_))
 refine wpList_append_nx rfl _ _ 22 rfl (base := w2.heap.size) Tryz.underlying22 info8b rfl (by omega) rfl o1 rfl (HBS.out.below hb0) (bytesV_one _) ⟨by omega, by omega⟩ hs1 ?_
 intro p2 c2 w5 o2 hg2 _ _
 rw [Nat.zero_add] at *
 rw [List.nil_append] at o2
 have hb2 : Below w2.heap.size w2 w5 := hb0.grown hg2 hs1 (fun i hi => (o1.lt i hi).1)
 refine only_end (Shut.out hK _ _ hb2 ?_)
 clear hK K
 (try simp only [Act.put, zA, zB, zC])
 (try refine eagerTOpen rfl ?_)
 have HO2 := Lib.hid o2
 clear o1 o2 hg2
 repeat ((first | (apply wpEagerT_take; (· rfl); (· (intro w' hb'; go_simp; try with_reducible rfl))) | refine wpEagerT_skip (by rfl) ?_); (try simp only [Act.put, zA, zB, zC]); (try refine eagerTOpen rfl ?_))
 (refine wpEagerT_op (by rfl) (fun K hK => ?_); go_simp; (refine (HDO.out _ p2 c2 (HLOW.out.trans (hb2.mono HLOW.out.size)) (fun y hy => Cut.own_bs (hy.own HO2.out (fun h => h.1 rfl)))).mono ?_; rintro e y1 ⟨TS, rfl, hrd, hb⟩; have hy1 := hb2.trans (hb.mono hb2.size); clear hb); refine Shut.out hK _ _ (by assumption) ?_; clear hK K; (try simp only [Act.put, zA, zB, zC]); (try refine eagerTOpen rfl ?_))
 have HQ := Lib.hid hrd
 clear hrd
 repeat ((first | (apply wpEagerT_take; (· rfl); (· (intro w' hb'; go_simp; try with_reducible rfl))) | refine wpEagerT_skip (by rfl) ?_); (try simp only [Act.put, zA, zB, zC]); (try refine eagerTOpen rfl ?_))
 refine eagerTEnd (tail2 rfl rfl ?_)
 have hz1 := Below.keepOld hy1 HZX.out
 have hl1 := HLOW.out.trans (hy1.mono HLOW.out.size)
 clear HZX HLOW HLA hy0 hy1 HDO hb0 hb2 HO2 HBS
 have HZX := Lib.hid hz1
 have HLOW := Lib.hid hl1
 clear hz1 hl1
 skip
 go_wp2_with (refine wpList_store_row rfl 65 _ _ rfl (w.heap.size + 1) (rdA TS d') rfl rfl 65 zD HZX.out (infoRD _ (rdA_size HQ.out.n3 HQ.out.m3)) (by rw [rdA_size HQ.out.n3 HQ.out.m3]; rfl) (rdA_one HQ.out.n3 HQ.out.m3) ?_)
 refine noPanic_end ?_
 go_wp2_with fail
 have HS := Lib.hid (setRow_heap _ _ _ (rdA TS d') _ _ HZX.out)
 refine bodyPost_ret (results_cell_tmp2 rfl _ _ _ _ _ _ _ rfl HS.out Tryz.underlying65 rfl (infoRD _ (rdA_size HQ.out.n3 HQ.out.m3))) rfl ?_
 exact ⟨TS, rfl, HQ.out.step (KR.of_turn (turns_setRow _ _ _) HZX.out), below_setRow HLOW.out (by omega) _⟩
end Go.Proofs.YtnejjfglkindjaaGreatDoor.Rk
namespace Go.Proofs.YtnejjfglkindjaaGreatDoor.Rk
open Go.RowKit Go.Mir Go.Mir.Parts Dk
theorem rcr_neg {r A : Int} (h1 : -A < r) (_h2 : r < A) (h : r < 0) : (r + A).tmod A = r + A := Int.tmod_eq_of_lt (by omega) (by omega)
theorem rcr_pos {r A : Int} (h2 : r < A) (h : ¬ r < 0) : (r + A).tmod A = r := by
 rw [Int.tmod_eq_emod_of_nonneg (by omega), Int.add_emod_right, Int.emod_eq_of_lt (by omega) h2]
theorem crashM_end {us : List Int} {d : DD} (h : d.fs.length = 3) : (⟨(crashM us d 3).fs, d.room, 0, false⟩ : DD) = crashD us d := by
 unfold crashM crashD
 rw [List.take_of_length_le (by omega), List.drop_eq_nil_of_le (by omega), List.append_nil]
theorem settle_set (f : FD) (u : Nat) {L : List UInt8} (h : someU f.kept f.steps u = L) : f.settle u = ⟨L, L, [], L.length⟩ := by unfold FD.settle; rw [h]
def CrOx (D : DD) (w : World) (e : Ending) (w' : World) : Prop := ∃ ts, e = .returned (.agg (rdA ts D)) ∧ RDB w' ts D ∧ Below w.heap.size w w'
set_option maxRecDepth 100000 in
set_option maxHeartbeats 12800000 in
theorem rcrash_any (ts : List RF) (d : DD) (us : List Int) (p : Option Addr) (c : Nat) (w : World) (h : RDB w ts d) (hN : Ns w p us.length c us) :
  Calls Tryz.prog 32 #[.agg (rdA ts d), .slice p us.length c] w (CrOx (crashD us d) w) := by
 have hz := zeroD
 obtain ⟨q1, q2, q3, q4⟩ := boxes w ts d
 have HQ0 : Hid (RQ w.heap.size w.heap.size ts d ((w.alloc (.cells (rdA ts d) 65)).alloc (.cells zD 65))) := RQ.of h q4 (Nat.le_refl _) q1
 have HZ0 := Lib.hid q2
 have HL0 := Lib.hid q4
 have HM3 := Lib.hid h.m3
 have HN := Lib.hid hN
 have hle := hN.sl.le
 have hmax := hN.sl.max
 clear q1 q2 q3 q4 h hN
 go_enter Tryz.func32, Tryz.ntmps32
 go_upto_region 1 with fail
 generalize (w.alloc (.cells (rdA ts d) 65)).alloc (.cells zD 65) = w2 at *
 go_wp2_with fail
 go_loopw [5, 6, 7] (fun i n a wr => ∃ k : Nat, k ≤ 3 ∧ i = .int .i64 k ∧ ∃ tk, RQ w.heap.size w.heap.size tk (crashM us d k) wr ∧ wr.heap[w.heap.size + 1]? = some (.cells zD 65 (0, 0)) ∧ Below w.heap.size w wr) (fun i _ _ _ => 3 - (intOf i).toNat)
 case atStart => exact ⟨0, by omega, rfl, ts, by rw [crashM_zero]; exact HQ0.out, HZ0.out, HL0.out⟩
 case round =>
  obtain ⟨k, hk, rfl, tk, hqr, hzr, hlr⟩ := hrel
  have HQX := Lib.hid hqr
  have HZX := Lib.hid hzr
  have HLX := Lib.hid hlr
  clear hqr hzr hlr HQ0 HZ0 HL0
  by_cases hlt : k < 3
  ·have hd : decide ((k : Int) < 3) = true := decide_eq_true (by omega)
   have hd2 : decide (k < 3) = true := decide_eq_true (by omega)
   have hk1 : (k : Int) < 3 := by omega
   have hk0 : (0 : Int) ≤ (k : Int) := by omega
   have HKL : Hid (k < (crashM us d k).fs.length) := by show _ < _; rw [HQX.out.m3]; exact hlt
   have HFE : Hid ((crashM us d k).fs[k]'HKL.out = d.fs[k]'(by have := HM3.out; omega)) := crashM_get HM3.out k hlt HKL.out
   have HSP := Lib.hid (crashM_step (us := us) HM3.out k hlt)
   have hkt : k < tk.length := by rw [HQX.out.n3]; exact hlt
   have HT : Hid (tk[k]? = some (tk[k]'hkt)) := List.getElem?_eq_getElem hkt
   have HF : Hid ((crashM us d k).fs[k]? = some (d.fs[k]'(by have := HM3.out; omega))) := by show _ = _; rw [← HFE.out]; exact List.getElem?_eq_getElem HKL.out
   have HCU : Hid (crU us k (d.fs[k]'(by have := HM3.out; omega)) ≤ unitsAll (d.fs[k]'(by have := HM3.out; omega)).steps) := crU_le
   generalize hff : d.fs[k]'(by have := HM3.out; omega) = f at *
   generalize tk[k]'hkt = t at *
   clear hff hkt
   have HRT := Lib.hid (HQX.out.each k t f HT.out HF.out).1
   have HNB : Hid (f.need ≤ 1000000) := by
    have h1 := usedL_mem HKL.out
    have h2 := HQX.out.used
    rw [HFE.out] at h1
    show _ ≤ _
    omega
   have HUB : Hid (unitsAll f.steps ≤ 288230376151711744) := HRT.out.now.un
   by_cases hku : k < us.length
   ·have e0 : decide ((k : Int) < (us.length : Int)) = true := decide_eq_true (by omega)
    have e1 : decide (k < us.length) = true := decide_eq_true hku
    obtain ⟨g, o, rfl⟩ := HN.out.sl.addr (by omega) (by omega)
    have hcx : wr.cell? ⟨g, o + k, none⟩ = some (.int .i64 (us[k]'hku)) := (HN.out.sl.below HLX.out).at (by simp [hku])
    have HXE : Hid (us[k]? = some (us[k]'hku)) := List.getElem?_eq_getElem hku
    have HXB := Lib.hid (HN.out.bd _ (List.getElem_mem hku))
    generalize us[k] = x at *
    have HCE : Hid (crU us k f = ((x.tmod ((unitsAll f.steps + 1 : Nat) : Int) + ((unitsAll f.steps + 1 : Nat) : Int)).tmod ((unitsAll f.steps + 1 : Nat) : Int)).toNat) := by show _ = _; unfold crU; rw [HXE.out]
    have HU := Lib.hid (runits_any t f wr HRT.out.now)
    have HRG := Lib.hid (rd_range HQX.out.n3 HQX.out.m3 HQX.out.row k HT.out HF.out)
    generalize hua : unitsAll f.steps = ua at *
    obtain ⟨A, hA⟩ : ∃ A, A = ua + 1 := ⟨_, rfl⟩
    have hA0 : 1 ≤ A := by omega
    have hAB : A ≤ 288230376151711745 := by have := HUB.out; omega
    rw [← hA] at HCE
    have hua1 : IntKind.i64.wrap ((ua : Int) + 1) = (A : Int) := by rw [show ((ua : Int) + 1) = (A : Int) by omega]; exact IntWalk.i64_in _ (by omega)
    have hua2 : (ua : Int) + 1 = (A : Int) := by omega
    obtain ⟨r, hr⟩ : ∃ r, x.tmod (A : Int) = r := ⟨_, rfl⟩
    have hr1 : -(A : Int) < r ∧ r < (A : Int) := by
     rw [← hr]
     exact ⟨Int.lt_tmod_of_pos x (by omega), Int.tmod_lt_of_pos x (by omega)⟩
    have hne0 : ((A : Int) == 0) = false := by rw [beq_eq_false_iff_ne]; omega
    have hne1 : ¬ (A : Int) = 0 := by omega
    have hne2 : ¬ A = 0 := by omega
    have hwr : IntKind.i64.wrap r = r := IntWalk.i64_in _ (by omega)
    have hcr : (if r < 0 then r + (A : Int) else r) = ((crU us k f : Nat) : Int) := by
     have h0 := HCE.out
     rw [hr] at h0
     have h1 : 0 ≤ (r + (A : Int)).tmod (A : Int) := Int.tmod_nonneg _ (by omega)
     split
     ·rename_i hn; rw [rcr_neg hr1.1 hr1.2 hn] at h0 h1; omega
     ·rename_i hn; rw [rcr_pos hr1.2 hn] at h0 h1; omega
    obtain ⟨mm, hmm⟩ : ∃ mm, mm = crU us k f := ⟨_, rfl⟩
    have HME := Lib.hid hmm
    rw [← hmm] at hcr
    have hmb : mm ≤ 1152921504606846976 := by have := HCU.out; have := HUB.out; omega
    clear hA hmm
    go_upto_region 6 with fail
    go_wp2_with ((with_reducible refine wpAt 19 ?_); refine wpList_load_mid rfl 62 _ rfl w.heap.size (k * 2) rfl (fA t f).toList _ HRG.out Tryz.underlying62 rfl (infoFi (fA t f) rfl) ?_)
    try rw [Array.toArray_toList]
    refine (HU.out).mono ?_
    rintro e w3 ⟨rfl, hb3⟩
    have hcx3 : w3.cell? ⟨g, o + k, none⟩ = some (.int .i64 x) := cell_below hcx hb3
    have hq3 := HQX.out.next hb3
    have hz3 := Below.keepOld hb3 HZX.out
    have hl3 := HLX.out.trans (hb3.mono HLX.out.size)
    clear HQX HZX HLX HRG HU hb3 hcx
    have HQX := Lib.hid hq3
    have HZX := Lib.hid hz3
    have HLX := Lib.hid hl3
    clear hq3 hz3 hl3
    by_cases hneg : r < 0
    ·rw [if_pos hneg] at hcr
     have e2 : decide (r < 0) = true := decide_eq_true hneg
     have hws : IntKind.i64.wrap (r + (A : Int)) = (mm : Int) := by rw [IntWalk.i64_in _ (by omega)]; exact hcr
     go_upto_region 10 with fail
     skip
     have hrb := (HQX.out.each k t f HT.out HF.out).1
     have HRG := Lib.hid (rd_range HQX.out.n3 HQX.out.m3 HQX.out.row k HT.out HF.out)
     have HDN := Lib.hid (rdone_any t f mm w3 hrb.now HNB.out (by omega))
     obtain ⟨L, hL⟩ : ∃ L, someU f.kept f.steps mm = L := ⟨_, rfl⟩
     rw [hL] at HDN
     obtain ⟨FN, hFN⟩ : ∃ FN, f.settle mm = FN := ⟨_, rfl⟩
     have hset : FN = ⟨L, L, [], L.length⟩ := by rw [← hFN]; exact settle_set f mm hL
     have HNS : Hid (Nd FN) := by have := nd_settle f mm; rw [hFN] at this; exact this
     have HST := Lib.hid hset
     have HUS : Hid (usedL (setF (crashM us d k) k FN).fs ≤ 1000000) := by
      have h1 := used_set (d := crashM us d k) HKL.out FN
      rw [HFE.out] at h1
      have h2 := HQX.out.used
      have h3 : FN.need = L.length := by rw [hset]
      have h4 := hrb.now.ok.all mm
      rw [hL] at h4
      show _ ≤ _
      omega
     have HSF : Hid (setF (crashM us d k) k FN = crashM us d (k + 1)) := by
      show _ = _
      rw [← HSP.out, ← hFN, HME.out]
     clear hrb hL hset hFN
     go_wp2_with ((with_reducible refine wpAt 37 ?_); refine wpList_load_mid rfl 62 _ rfl w.heap.size (k * 2) rfl (fA t f).toList _ HRG.out Tryz.underlying62 rfl (infoFi (fA t f) rfl) ?_)
     try rw [Array.toArray_toList]
     refine HDN.out.mono ?_
     rintro e w5 ⟨p5, c5, rfl, ho5, hb5⟩
     have hq5 := HQX.out.next hb5
     have hfr : Rb w.heap.size w5 ⟨p5, c5, none, 0⟩ FN := Rb.fresh (f := FN) ho5 HST.out
     obtain ⟨TN, hTN⟩ : ∃ TN : RF, (⟨p5, c5, none, 0⟩ : RF) = TN := ⟨_, rfl⟩
     have hfa : fA TN FN = #[.slice p5 L.length c5, .slice none 0 0] := by rw [← hTN, HST.out]; rfl
     rw [hTN] at hfr
     obtain ⟨hq6, hk6⟩ := hq5.file k hlt TN FN hfr HNS.out HUS.out
     rw [hfa] at hq6 hk6
     rw [HSF.out] at hq6
     have HTH := Lib.hid (hq5.there k hlt)
     have HQ6 := Lib.hid hq6
     have HL6 := Lib.hid (HLX.out.trans (hb5.mono HLX.out.size))
     have HL7 : Hid (Below w.heap.size w (w5.setCells w.heap.size (k * 2) #[.slice p5 L.length c5, .slice none 0 0].toList)) := Lib.hid (HL6.out.trans (Turns.below (turns_setCells (S := fun k => k = w.heap.size) rfl _ _ _ (Turns.refl _ w5)) HL6.out.size (fun _ e => by omega)))
     have hd6 : (w5.setCells w.heap.size (k * 2) #[.slice p5 L.length c5, .slice none 0 0].toList).heap[w.heap.size + 1]? = some (.cells zD 65 (0, 0)) := (turns_setCells (S := fun k => k = w.heap.size) rfl _ _ _ (Turns.refl _ w5)).keep (Below.keepOld hb5 HZX.out) (by omega)
     have HZ7 := Lib.hid hd6
     clear HQX HZX HLX HDN ho5 hb5 hq5 hfr hq6 hk6 hd6 HRG HUS HNS HST HL6 hTN hfa HSF
     go_wp2_with (refine wpList_store_mid rfl 62 _ _ rfl w.heap.size (k * 2) #[.slice p5 L.length c5, .slice none 0 0] rfl rfl HTH.out (infoFi _ rfl) (by simp [Value.oneCell']) ?_)
     go_roundw
     case rel => exact ⟨k + 1, by omega, by go_num, _, HQ6.out, HZ7.out, HL7.out⟩
     case measure => simp [intOf]; omega
    ·rw [if_neg hneg] at hcr
     have e2 : decide (r < 0) = false := decide_eq_false hneg
     subst hcr
     go_upto_region 10 with fail
     skip
     have hrb := (HQX.out.each k t f HT.out HF.out).1
     have HRG := Lib.hid (rd_range HQX.out.n3 HQX.out.m3 HQX.out.row k HT.out HF.out)
     have HDN := Lib.hid (rdone_any t f mm w3 hrb.now HNB.out (by omega))
     obtain ⟨L, hL⟩ : ∃ L, someU f.kept f.steps mm = L := ⟨_, rfl⟩
     rw [hL] at HDN
     obtain ⟨FN, hFN⟩ : ∃ FN, f.settle mm = FN := ⟨_, rfl⟩
     have hset : FN = ⟨L, L, [], L.length⟩ := by rw [← hFN]; exact settle_set f mm hL
     have HNS : Hid (Nd FN) := by have := nd_settle f mm; rw [hFN] at this; exact this
     have HST := Lib.hid hset
     have HUS : Hid (usedL (setF (crashM us d k) k FN).fs ≤ 1000000) := by
      have h1 := used_set (d := crashM us d k) HKL.out FN
      rw [HFE.out] at h1
      have h2 := HQX.out.used
      have h3 : FN.need = L.length := by rw [hset]
      have h4 := hrb.now.ok.all mm
      rw [hL] at h4
      show _ ≤ _
      omega
     have HSF : Hid (setF (crashM us d k) k FN = crashM us d (k + 1)) := by
      show _ = _
      rw [← HSP.out, ← hFN, HME.out]
     clear hrb hL hset hFN
     go_wp2_with ((with_reducible refine wpAt 37 ?_); refine wpList_load_mid rfl 62 _ rfl w.heap.size (k * 2) rfl (fA t f).toList _ HRG.out Tryz.underlying62 rfl (infoFi (fA t f) rfl) ?_)
     try rw [Array.toArray_toList]
     refine HDN.out.mono ?_
     rintro e w5 ⟨p5, c5, rfl, ho5, hb5⟩
     have hq5 := HQX.out.next hb5
     have hfr : Rb w.heap.size w5 ⟨p5, c5, none, 0⟩ FN := Rb.fresh (f := FN) ho5 HST.out
     obtain ⟨TN, hTN⟩ : ∃ TN : RF, (⟨p5, c5, none, 0⟩ : RF) = TN := ⟨_, rfl⟩
     have hfa : fA TN FN = #[.slice p5 L.length c5, .slice none 0 0] := by rw [← hTN, HST.out]; rfl
     rw [hTN] at hfr
     obtain ⟨hq6, hk6⟩ := hq5.file k hlt TN FN hfr HNS.out HUS.out
     rw [hfa] at hq6 hk6
     rw [HSF.out] at hq6
     have HTH := Lib.hid (hq5.there k hlt)
     have HQ6 := Lib.hid hq6
     have HL6 := Lib.hid (HLX.out.trans (hb5.mono HLX.out.size))
     have HL7 : Hid (Below w.heap.size w (w5.setCells w.heap.size (k * 2) #[.slice p5 L.length c5, .slice none 0 0].toList)) := Lib.hid (HL6.out.trans (Turns.below (turns_setCells (S := fun k => k = w.heap.size) rfl _ _ _ (Turns.refl _ w5)) HL6.out.size (fun _ e => by omega)))
     have hd6 : (w5.setCells w.heap.size (k * 2) #[.slice p5 L.length c5, .slice none 0 0].toList).heap[w.heap.size + 1]? = some (.cells zD 65 (0, 0)) := (turns_setCells (S := fun k => k = w.heap.size) rfl _ _ _ (Turns.refl _ w5)).keep (Below.keepOld hb5 HZX.out) (by omega)
     have HZ7 := Lib.hid hd6
     clear HQX HZX HLX HDN ho5 hb5 hq5 hfr hq6 hk6 hd6 HRG HUS HNS HST HL6 hTN hfa HSF
     go_wp2_with (refine wpList_store_mid rfl 62 _ _ rfl w.heap.size (k * 2) #[.slice p5 L.length c5, .slice none 0 0] rfl rfl HTH.out (infoFi _ rfl) (by simp [Value.oneCell']) ?_)
     go_roundw
     case rel => exact ⟨k + 1, by omega, by go_num, _, HQ6.out, HZ7.out, HL7.out⟩
     case measure => simp [intOf]; omega
   ·have e0 : decide ((k : Int) < (us.length : Int)) = false := decide_eq_false (by omega)
    have e1 : decide (k < us.length) = false := decide_eq_false hku
    have HME : Hid (0 = crU us k f) := by show _ = _; unfold crU; rw [List.getElem?_eq_none (by omega)]
    go_upto_region 10 with fail
    skip
    have hrb := (HQX.out.each k t f HT.out HF.out).1
    have HRG := Lib.hid (rd_range HQX.out.n3 HQX.out.m3 HQX.out.row k HT.out HF.out)
    have HDN := Lib.hid (rdone_any t f 0 wr hrb.now HNB.out (by omega))
    obtain ⟨L, hL⟩ : ∃ L, someU f.kept f.steps 0 = L := ⟨_, rfl⟩
    rw [hL] at HDN
    obtain ⟨FN, hFN⟩ : ∃ FN, f.settle 0 = FN := ⟨_, rfl⟩
    have hset : FN = ⟨L, L, [], L.length⟩ := by rw [← hFN]; exact settle_set f 0 hL
    have HNS : Hid (Nd FN) := by have := nd_settle f 0; rw [hFN] at this; exact this
    have HST := Lib.hid hset
    have HUS : Hid (usedL (setF (crashM us d k) k FN).fs ≤ 1000000) := by
     have h1 := used_set (d := crashM us d k) HKL.out FN
     rw [HFE.out] at h1
     have h2 := HQX.out.used
     have h3 : FN.need = L.length := by rw [hset]
     have h4 := hrb.now.ok.all 0
     rw [hL] at h4
     show _ ≤ _
     omega
    have HSF : Hid (setF (crashM us d k) k FN = crashM us d (k + 1)) := by
     show _ = _
     rw [← HSP.out, ← hFN, HME.out]
    clear hrb hL hset hFN
    go_wp2_with ((with_reducible refine wpAt 37 ?_); refine wpList_load_mid rfl 62 _ rfl w.heap.size (k * 2) rfl (fA t f).toList _ HRG.out Tryz.underlying62 rfl (infoFi (fA t f) rfl) ?_)
    try rw [Array.toArray_toList]
    refine HDN.out.mono ?_
    rintro e w5 ⟨p5, c5, rfl, ho5, hb5⟩
    have hq5 := HQX.out.next hb5
    have hfr : Rb w.heap.size w5 ⟨p5, c5, none, 0⟩ FN := Rb.fresh (f := FN) ho5 HST.out
    obtain ⟨TN, hTN⟩ : ∃ TN : RF, (⟨p5, c5, none, 0⟩ : RF) = TN := ⟨_, rfl⟩
    have hfa : fA TN FN = #[.slice p5 L.length c5, .slice none 0 0] := by rw [← hTN, HST.out]; rfl
    rw [hTN] at hfr
    obtain ⟨hq6, hk6⟩ := hq5.file k hlt TN FN hfr HNS.out HUS.out
    rw [hfa] at hq6 hk6
    rw [HSF.out] at hq6
    have HTH := Lib.hid (hq5.there k hlt)
    have HQ6 := Lib.hid hq6
    have HL6 := Lib.hid (HLX.out.trans (hb5.mono HLX.out.size))
    have HL7 : Hid (Below w.heap.size w (w5.setCells w.heap.size (k * 2) #[.slice p5 L.length c5, .slice none 0 0].toList)) := Lib.hid (HL6.out.trans (Turns.below (turns_setCells (S := fun k => k = w.heap.size) rfl _ _ _ (Turns.refl _ w5)) HL6.out.size (fun _ e => by omega)))
    have hd6 : (w5.setCells w.heap.size (k * 2) #[.slice p5 L.length c5, .slice none 0 0].toList).heap[w.heap.size + 1]? = some (.cells zD 65 (0, 0)) := (turns_setCells (S := fun k => k = w.heap.size) rfl _ _ _ (Turns.refl _ w5)).keep (Below.keepOld hb5 HZX.out) (by omega)
    have HZ7 := Lib.hid hd6
    clear HQX HZX HLX HDN ho5 hb5 hq5 hfr hq6 hk6 hd6 HRG HUS HNS HST HL6 hTN hfa HSF
    go_wp2_with (refine wpList_store_mid rfl 62 _ _ rfl w.heap.size (k * 2) #[.slice p5 L.length c5, .slice none 0 0] rfl rfl HTH.out (infoFi _ rfl) (by simp [Value.oneCell']) ?_)
    go_roundw
    case rel => exact ⟨k + 1, by omega, by go_num, _, HQ6.out, HZ7.out, HL7.out⟩
    case measure => simp [intOf]; omega
  ·obtain rfl : k = 3 := by omega
   have hd : decide ((3 : Int) < (3 : Int)) = false := by decide
   obtain ⟨_, hc7, hc8, hfz⟩ := HQX.out.cells
   go_upto_region 11 with fail
   have hq4 : RQ w.heap.size w.heap.size tk ⟨(crashM us d 3).fs, d.room, 0, (crashM us d 3).down⟩ (wr.setCell ⟨w.heap.size, 7, none⟩ (.int .i64 0)) := (HQX.out.fuse 0 (by omega)).1
   have hl4 : Below w.heap.size w (wr.setCell ⟨w.heap.size, 7, none⟩ (.int .i64 0)) := HLX.out.trans (Turns.below ((Turns.refl (fun k => k = w.heap.size) wr).setCell (p := ⟨w.heap.size, 7, none⟩) (fun _ => rfl) _) HLX.out.size (fun _ e => by omega))
   have hz4 : (wr.setCell ⟨w.heap.size, 7, none⟩ (.int .i64 0)).heap[w.heap.size + 1]? = some (.cells zD 65 (0, 0)) := ((Turns.refl (fun k => k = w.heap.size) wr).setCell (p := ⟨w.heap.size, 7, none⟩) (fun _ => rfl) _).keep HZX.out (by omega)
   go_upto_region 12 with fail
   clear hc7 hc8 hfz HQX HZX HLX
   generalize wr.setCell ⟨w.heap.size, 7, none⟩ (.int .i64 0) = w4 at *
   obtain ⟨_, _, hc8, hfz⟩ := hq4.cells
   have hq5 := (hq4.down false).1
   have hl5 : Below w.heap.size w (w4.setCell ⟨w.heap.size, 8, none⟩ (.bool false)) := hl4.trans (Turns.below ((Turns.refl (fun k => k = w.heap.size) w4).setCell (p := ⟨w.heap.size, 8, none⟩) (fun _ => rfl) _) hl4.size (fun _ e => by omega))
   have hz5 : (w4.setCell ⟨w.heap.size, 8, none⟩ (.bool false)).heap[w.heap.size + 1]? = some (.cells zD 65 (0, 0)) := ((Turns.refl (fun k => k = w.heap.size) w4).setCell (p := ⟨w.heap.size, 8, none⟩) (fun _ => rfl) _).keep hz4 (by omega)
   have HQ5 := Lib.hid hq5
   have HL5 := Lib.hid hl5
   have HZ5 := Lib.hid hz5
   clear hq4 hl4 hz4 hq5 hl5 hz5
   go_upto_region 13 with fail
   clear hc8 hfz
   generalize w4.setCell ⟨w.heap.size, 8, none⟩ (.bool false) = w5 at *
   have hq : RQ w.heap.size w.heap.size tk (crashD us d) w5 := by rw [← crashM_end HM3.out]; exact HQ5.out
   have HQ := Lib.hid hq
   clear hq HQ5
   generalize crashD us d = DC at *
   have HCO : Hid (∀ w', RDB w' tk DC → Below w.heap.size w w' → CrOx DC w (.returned (.agg (rdA tk DC))) w') := fun w' a b => ⟨tk, rfl, a, b⟩
   go_wp2_with (first
    | refine wpList_load_row rfl 65 _ rfl w.heap.size rfl 65 (rdA tk DC) (0, 0) _ HQ.out.row Tryz.underlying65 rfl (infoRD _ (rdA_size HQ.out.n3 HQ.out.m3)) ?_
    | refine wpList_store_row rfl 65 _ _ rfl (w.heap.size + 1) (rdA tk DC) rfl rfl 65 zD HZ5.out (infoRD _ (rdA_size HQ.out.n3 HQ.out.m3)) (by rw [rdA_size HQ.out.n3 HQ.out.m3]; rfl) (rdA_one HQ.out.n3 HQ.out.m3) ?_)
   have HS := Lib.hid (setRow_heap _ _ _ (rdA tk DC) _ _ HZ5.out)
   refine bodyPost_ret (results_cell_row rfl _ _ _ _ _ _ _ rfl HS.out Tryz.underlying65 rfl (infoRD _ (rdA_size HQ.out.n3 HQ.out.m3))) rfl ?_
   exact HCO.out _ (HQ.out.done HZ5.out (by omega)) (below_setRow HL5.out (by omega) _)
end Go.Proofs.YtnejjfglkindjaaGreatDoor.Rk
namespace Go.Proofs.YtnejjfglkindjaaGreatDoor.Rk
open Go.RowKit Go.Mir Go.Mir.Parts Dk Rol
open Frm (frame scan)
open Cut (Ls LsO)
theorem enc_ok {l : List UInt8} (h : 1 ≤ l.length) : Frm.enc l = (frame l, 0) := by unfold Frm.enc; rw [if_neg (by omega)]
theorem enc_no {l : List UInt8} (h : l.length = 0) : Frm.enc l = ([], 1) := by unfold Frm.enc; rw [if_pos h]
theorem RDB.put {x : World} {ts : List RF} {d : DD} {g : Nat} {M A : Array Value} (h : RDB x ts d) (hz : x.heap[g]? = some (.cells M 65 (0, 0))) : RDB (x.setRow g A) ts d := h.step (KR.of_turn (turns_setRow _ _ _) hz)
theorem RDB.fd {x : World} {ts : List RF} {d : DD} (h : RDB x ts d) {i : Nat} (hi : i < 3) : d.fs[i]? = some (fD d i) := by
 have hl : i < d.fs.length := by rw [h.m3]; exact hi
 rw [List.getElem?_eq_getElem hl, fD_eq hl]
theorem rput_in (ts : List RF) (d : DD) (i : Nat) (hi : i < 3) (p : Option Addr) (B : List UInt8) (c : Nat) (w : World) (h : RDB w ts d) (hur : usedL d.fs ≤ d.room) (hb : Bs w p B.length c B) (hu : B.length ≤ 60000) (hfew : (fD d i).steps.length + 1 ≤ 2199023255552) :
  Calls Tryz.prog 25 #[.agg (rdA ts d), .int .i64 (i : Int), .slice p B.length c] w (ROut (doD d i (fD d i) (.put B)) (doE d i (fD d i) (.put B)) w) :=
 rappend_of ts d _ _ i p B c w h.n3 h.m3 hb (by omega) (fun w1 q k hb1 hq => rdo_put ts d i hi (fD d i) (h.fd hi) B q k w1 (h.below hb1) hur hq hu hfew)
theorem rcut_in (ts : List RF) (d : DD) (i : Nat) (hi : i < 3) (m : Nat) (hm : m ≤ (fD d i).now.length) (w : World) (h : RDB w ts d) (hur : usedL d.fs ≤ d.room) (hfew : (fD d i).steps.length + 1 ≤ 2199023255552) :
  Calls Tryz.prog 103 #[.agg (rdA ts d), .int .i64 (i : Int), .int .i64 (m : Int)] w (ROut (doD d i (fD d i) (.cut m)) (doE d i (fD d i) (.cut m)) w) :=
 rcut_of ts d _ _ i m w h.n3 h.m3 (fun w1 hb1 => rdo_cut ts d i hi (fD d i) (h.fd hi) m hm w1 (h.below hb1) hur hfew)
set_option maxRecDepth 100000 in
set_option maxHeartbeats 3200000 in
theorem rclr_any (ts : List RF) (d : DD) (i : Nat) (hi : i < 3) (w : World) (h : RDB w ts d) (hur : usedL d.fs ≤ d.room) (hfew : (fD d i).steps.length + 1 ≤ 2199023255552) :
  Calls Tryz.prog 61 #[.agg (rdA ts d), .int .i64 (i : Int)] w (ROut (clrD d i 0) (clrE d i 0) w) := by
 have hz := zeroD
 obtain ⟨q1, q2, q3, q4⟩ := boxes w ts d
 have HROW := Lib.hid q1
 have HZX := Lib.hid q2
 have HLOW := Lib.hid q4
 have HR := Lib.hid (h.below q4)
 have HI := Lib.hid hi
 have HUR := Lib.hid hur
 have HFEW := Lib.hid hfew
 clear q1 q2 q3 q4 h hi hur hfew
 have HN3 := Lib.hid HR.out.n3
 have HM3 := Lib.hid HR.out.m3
 obtain ⟨MD, hMD⟩ : ∃ MD, clrD d i 0 = MD := ⟨_, rfl⟩
 obtain ⟨ME, hME⟩ : ∃ ME, clrE d i 0 = ME := ⟨_, rfl⟩
 rw [hMD, hME]
 unfold clrD at hMD
 unfold clrE at hME
 go_enter Tryz.func61, Tryz.ntmps61
 go_upto_region 1 with fail
 generalize (w.alloc (.cells (rdA ts d) 65)).alloc (.cells zD 65) = w2 at *
 have HCL : Hid (Calls Tryz.prog 103 #[.agg (rdA ts d), .int .i64 (i : Int), .int .i64 0] w2 (ROut (doD d i (fD d i) (.cut 0)) (doE d i (fD d i) (.cut 0)) w2)) := rcut_in ts d i HI.out 0 (Nat.zero_le _) w2 HR.out HUR.out HFEW.out
 obtain ⟨D1, hD1⟩ : ∃ D1, doD d i (fD d i) (.cut 0) = D1 := ⟨_, rfl⟩
 obtain ⟨E1, hE1⟩ : ∃ E1, doE d i (fD d i) (.cut 0) = E1 := ⟨_, rfl⟩
 rw [hD1, hE1] at hMD HCL
 rw [hD1, hE1] at hME
 have HMD := Lib.hid hMD.symm
 have HME := Lib.hid hME.symm
 clear hD1 hE1 hMD hME
 go_wp2_with (refine wpList_load_row rfl 65 _ rfl w.heap.size rfl 65 (rdA ts d) (0, 0) _ HROW.out Tryz.underlying65 rfl (infoRD _ (rdA_size HR.out.n3 HR.out.m3)) ?_)
 refine HCL.out.mono ?_
 rintro e y1 ⟨TS, rfl, hrd, hy1⟩
 skip
 have HLY := Lib.hid (HLOW.out.trans (hy1.mono HLOW.out.size))
 have HZY := Lib.hid (Below.keepOld hy1 HZX.out)
 have HRY := Lib.hid (Below.keepOld hy1 HROW.out)
 have HRD := Lib.hid hrd
 clear HLOW HZX HROW HR hy1 hrd
 go_upto_region 2 with (refine wpList_store_row rfl 65 _ _ rfl w.heap.size (rdA TS D1) rfl rfl 65 (rdA ts d) HRY.out (infoRD _ (rdA_size HRD.out.n3 HRD.out.m3)) (by rw [rdA_size HRD.out.n3 HRD.out.m3, rdA_size HN3.out HM3.out]) (rdA_one HRD.out.n3 HRD.out.m3) ?_)
 try simp only [Act.put, zA, zB, zC]
 have HR := Lib.hid (HRD.out.put (A := rdA TS D1) HRY.out)
 have HROW := Lib.hid (setRow_heap _ _ _ (rdA TS D1) _ _ HRY.out)
 have HZX : Hid ((y1.setRow w.heap.size (rdA TS D1)).heap[w.heap.size + 1]? = some (.cells zD 65 (0, 0))) := by show _ = _; rw [setRow_other _ _ _ _ (by omega)]; exact HZY.out
 have HLOW : Hid (Below w.heap.size w (y1.setRow w.heap.size (rdA TS D1))) := below_setRow HLY.out (Nat.le_refl _) _
 clear HRY HZY HLY HRD HN3 HM3
 generalize y1.setRow w.heap.size (rdA TS D1) = w3 at *
 by_cases he : E1 = 0
 ·rw [if_pos he] at HME HMD
  have hb0 : (E1 == 0) = true := by rw [he]; rfl
  subst he
  go_upto_region 4 with fail
  go_wp2_with (refine wpList_load_row rfl 65 _ rfl w.heap.size rfl 65 (rdA TS D1) (0, 0) _ HROW.out Tryz.underlying65 rfl (infoRD _ (rdA_size HR.out.n3 HR.out.m3)) ?_)
  refine (rsync_in TS D1 i HI.out (fD D1 i) (HR.out.fd HI.out) w3 HR.out).mono ?_
  rw [← HME.out, ← HMD.out]
  rintro e y2 ⟨T2, rfl, hr2, hy2⟩
  have HLY := Lib.hid (HLOW.out.trans (hy2.mono HLOW.out.size))
  have HZY := Lib.hid (Below.keepOld hy2 HZX.out)
  have HRD := Lib.hid hr2
  clear HLOW HZX HROW HR hy2 hr2 HME HMD
  go_wp2_with (refine wpList_store_row rfl 65 _ _ rfl (w.heap.size + 1) (rdA T2 MD) rfl rfl 65 zD HZY.out (infoRD _ (rdA_size HRD.out.n3 HRD.out.m3)) (by rw [rdA_size HRD.out.n3 HRD.out.m3]; rfl) (rdA_one HRD.out.n3 HRD.out.m3) ?_)
  have HS := Lib.hid (setRow_heap _ _ _ (rdA T2 MD) _ _ HZY.out)
  refine bodyPost_ret (results_cell_tmp2 rfl _ _ _ _ _ _ _ rfl HS.out Tryz.underlying65 rfl (infoRD _ (rdA_size HRD.out.n3 HRD.out.m3))) rfl ?_
  exact ⟨T2, rfl, HRD.out.put HZY.out, below_setRow HLY.out (by omega) _⟩
 ·rw [if_neg he] at HME HMD
  have hb0 : (E1 == 0) = false := beq_eq_false_iff_ne.2 he
  have f1 := HME.out
  have f2 := HMD.out
  clear HME HMD
  subst ME MD
  go_upto_region 3 with fail
  go_wp2_with (first
   | refine wpList_load_row rfl 65 _ rfl w.heap.size rfl 65 (rdA TS D1) (0, 0) _ HROW.out Tryz.underlying65 rfl (infoRD _ (rdA_size HR.out.n3 HR.out.m3)) ?_
   | refine wpList_store_row rfl 65 _ _ rfl (w.heap.size + 1) (rdA TS D1) rfl rfl 65 zD HZX.out (infoRD _ (rdA_size HR.out.n3 HR.out.m3)) (by rw [rdA_size HR.out.n3 HR.out.m3]; rfl) (rdA_one HR.out.n3 HR.out.m3) ?_)
  have HS := Lib.hid (setRow_heap _ _ _ (rdA TS D1) _ _ HZX.out)
  refine bodyPost_ret (results_cell_tmp2 rfl _ _ _ _ _ _ _ rfl HS.out Tryz.underlying65 rfl (infoRD _ (rdA_size HR.out.n3 HR.out.m3))) rfl ?_
  exact ⟨TS, rfl, HR.out.put HZX.out, below_setRow HLOW.out (by omega) _⟩
set_option maxRecDepth 100000 in
set_option maxHeartbeats 3200000 in
theorem rapp_any (ts : List RF) (d : DD) (i : Nat) (hi : i < 3) (p : Option Addr) (b : List UInt8) (c : Nat) (w : World) (h : RDB w ts d) (hur : usedL d.fs ≤ d.room) (hb : Bs w p b.length c b) (hn : b.length ≤ 4000) (hfew : (fD d i).steps.length + 1 ≤ 2199023255552) :
  Calls Tryz.prog 59 #[.agg (rdA ts d), .int .i64 (i : Int), .slice p b.length c] w (ROut (appD d i b) (appE d i b) w) := by
 have HBS := Lib.hid hb
 clear hb
 have hz := zeroD
 obtain ⟨q1, q2, q3, q4⟩ := boxes w ts d
 have HROW := Lib.hid q1
 have HZX := Lib.hid q2
 have HLOW := Lib.hid q4
 have HR := Lib.hid (h.below q4)
 have HI := Lib.hid hi
 have HUR := Lib.hid hur
 have HFEW := Lib.hid hfew
 clear q1 q2 q3 q4 h hi hur hfew
 have HB2 := Lib.hid (HBS.out.below HLOW.out)
 have HN3 := Lib.hid HR.out.n3
 have HM3 := Lib.hid HR.out.m3
 obtain ⟨MD, hMD⟩ : ∃ MD, appD d i b = MD := ⟨_, rfl⟩
 obtain ⟨ME, hME⟩ : ∃ ME, appE d i b = ME := ⟨_, rfl⟩
 rw [hMD, hME]
 unfold appD at hMD
 unfold appE at hME
 have HEN := Lib.hid (fun w' (hb : Bs w' p b.length c b) => Frm.rencode_any p b.length c b w' hb hn)
 go_enter Tryz.func59, Tryz.ntmps59
 go_upto_region 1 with fail
 generalize (w.alloc (.cells (rdA ts d) 65)).alloc (.cells zD 65) = w2 at *
 go_wp2_with fail
 refine (HEN.out w2 HB2.out).mono ?_
 by_cases h0 : b.length = 0
 ·rw [enc_no h0]
  rw [if_pos h0] at hMD hME
  rintro e y1 ⟨p1, c1, rfl, _, hy1⟩
  have hl1 := HLOW.out.trans (hy1.mono HLOW.out.size)
  have hz1 := Below.keepOld hy1 HZX.out
  have hr1 := Below.keepOld hy1 HROW.out
  have hd1 := HR.out.below hy1
  clear HLOW HZX HROW HR hy1 HEN HB2
  have HLOW := Lib.hid hl1
  have HZX := Lib.hid hz1
  have HROW := Lib.hid hr1
  have HR := Lib.hid hd1
  clear hl1 hz1 hr1 hd1
  subst MD ME
  go_upto_region 3 with fail
  go_wp2_with (first
   | refine wpList_load_row rfl 65 _ rfl w.heap.size rfl 65 (rdA ts d) (0, 0) _ HROW.out Tryz.underlying65 rfl (infoRD _ (rdA_size HR.out.n3 HR.out.m3)) ?_
   | refine wpList_store_row rfl 65 _ _ rfl (w.heap.size + 1) (rdA ts d) rfl rfl 65 zD HZX.out (infoRD _ (rdA_size HR.out.n3 HR.out.m3)) (by rw [rdA_size HR.out.n3 HR.out.m3]; rfl) (rdA_one HR.out.n3 HR.out.m3) ?_)
  have HS := Lib.hid (setRow_heap _ _ _ (rdA ts d) _ _ HZX.out)
  refine bodyPost_ret (results_cell_tmp2 rfl _ _ _ _ _ _ _ rfl HS.out Tryz.underlying65 rfl (infoRD _ (rdA_size HR.out.n3 HR.out.m3))) rfl ?_
  exact ⟨ts, rfl, HR.out.put HZX.out, below_setRow HLOW.out (by omega) _⟩
 ·rw [enc_ok (by omega)]
  rw [if_neg h0] at hMD hME
  rintro e y0 ⟨p1, c1, rfl, ho1, hy0⟩
  have hl1 := HLOW.out.trans (hy0.mono HLOW.out.size)
  have hz1 := Below.keepOld hy0 HZX.out
  have hr1 := Below.keepOld hy0 HROW.out
  have hd1 := HR.out.below hy0
  clear HLOW HZX HROW HR hy0 HEN HB2
  have HLOW := Lib.hid hl1
  have HZX := Lib.hid hz1
  have HROW := Lib.hid hr1
  have HR := Lib.hid hd1
  clear hl1 hz1 hr1 hd1
  have hfl : (frame b).length ≤ 60000 := by rw [Frm.frame_length]; omega
  dsimp only at ho1 ⊢
  have HCL := Lib.hid (rput_in ts d i HI.out p1 (frame b) c1 y0 HR.out HUR.out (Cut.own_bs ho1) hfl HFEW.out)
  obtain ⟨D1, hD1⟩ : ∃ D1, doD d i (fD d i) (.put (frame b)) = D1 := ⟨_, rfl⟩
  obtain ⟨E1, hE1⟩ : ∃ E1, doE d i (fD d i) (.put (frame b)) = E1 := ⟨_, rfl⟩
  rw [hD1, hE1] at hMD HCL
  rw [hD1, hE1] at hME
  have HMD := Lib.hid hMD.symm
  have HME := Lib.hid hME.symm
  clear hD1 hE1 hMD hME ho1
  go_upto_region 4 with fail
  go_wp2_with (refine wpList_load_row rfl 65 _ rfl w.heap.size rfl 65 (rdA ts d) (0, 0) _ HROW.out Tryz.underlying65 rfl (infoRD _ (rdA_size HR.out.n3 HR.out.m3)) ?_)
  refine HCL.out.mono ?_
  rintro e y1 ⟨TS, rfl, hrd, hy1⟩
  skip
  have HLY := Lib.hid (HLOW.out.trans (hy1.mono HLOW.out.size))
  have HZY := Lib.hid (Below.keepOld hy1 HZX.out)
  have HRY := Lib.hid (Below.keepOld hy1 HROW.out)
  have HRD := Lib.hid hrd
  clear HLOW HZX HROW HR hy1 hrd
  go_upto_region 5 with (refine wpList_store_row rfl 65 _ _ rfl w.heap.size (rdA TS D1) rfl rfl 65 (rdA ts d) HRY.out (infoRD _ (rdA_size HRD.out.n3 HRD.out.m3)) (by rw [rdA_size HRD.out.n3 HRD.out.m3, rdA_size HN3.out HM3.out]) (rdA_one HRD.out.n3 HRD.out.m3) ?_)
  try simp only [Act.put, zA, zB, zC]
  have HR := Lib.hid (HRD.out.put (A := rdA TS D1) HRY.out)
  have HROW := Lib.hid (setRow_heap _ _ _ (rdA TS D1) _ _ HRY.out)
  have HZX : Hid ((y1.setRow w.heap.size (rdA TS D1)).heap[w.heap.size + 1]? = some (.cells zD 65 (0, 0))) := by show _ = _; rw [setRow_other _ _ _ _ (by omega)]; exact HZY.out
  have HLOW : Hid (Below w.heap.size w (y1.setRow w.heap.size (rdA TS D1))) := below_setRow HLY.out (Nat.le_refl _) _
  clear HRY HZY HLY HRD HN3 HM3
  generalize y1.setRow w.heap.size (rdA TS D1) = w3 at *
  by_cases he : E1 = 0
  ·rw [if_pos he] at HME HMD
   have hb0 : (E1 == 0) = true := by rw [he]; rfl
   subst he
   go_upto_region 7 with fail
   go_wp2_with (refine wpList_load_row rfl 65 _ rfl w.heap.size rfl 65 (rdA TS D1) (0, 0) _ HROW.out Tryz.underlying65 rfl (infoRD _ (rdA_size HR.out.n3 HR.out.m3)) ?_)
   refine (rsync_in TS D1 i HI.out (fD D1 i) (HR.out.fd HI.out) w3 HR.out).mono ?_
   rw [← HME.out, ← HMD.out]
   rintro e y2 ⟨T2, rfl, hr2, hy2⟩
   have HLY := Lib.hid (HLOW.out.trans (hy2.mono HLOW.out.size))
   have HZY := Lib.hid (Below.keepOld hy2 HZX.out)
   have HRD := Lib.hid hr2
   clear HLOW HZX HROW HR hy2 hr2 HME HMD
   go_wp2_with (refine wpList_store_row rfl 65 _ _ rfl (w.heap.size + 1) (rdA T2 MD) rfl rfl 65 zD HZY.out (infoRD _ (rdA_size HRD.out.n3 HRD.out.m3)) (by rw [rdA_size HRD.out.n3 HRD.out.m3]; rfl) (rdA_one HRD.out.n3 HRD.out.m3) ?_)
   have HS := Lib.hid (setRow_heap _ _ _ (rdA T2 MD) _ _ HZY.out)
   refine bodyPost_ret (results_cell_tmp2 rfl _ _ _ _ _ _ _ rfl HS.out Tryz.underlying65 rfl (infoRD _ (rdA_size HRD.out.n3 HRD.out.m3))) rfl ?_
   exact ⟨T2, rfl, HRD.out.put HZY.out, below_setRow HLY.out (by omega) _⟩
  ·rw [if_neg he] at HME HMD
   have hb0 : (E1 == 0) = false := beq_eq_false_iff_ne.2 he
   have f1 := HME.out
   have f2 := HMD.out
   clear HME HMD
   subst ME MD
   go_upto_region 6 with fail
   go_wp2_with (first
    | refine wpList_load_row rfl 65 _ rfl w.heap.size rfl 65 (rdA TS D1) (0, 0) _ HROW.out Tryz.underlying65 rfl (infoRD _ (rdA_size HR.out.n3 HR.out.m3)) ?_
    | refine wpList_store_row rfl 65 _ _ rfl (w.heap.size + 1) (rdA TS D1) rfl rfl 65 zD HZX.out (infoRD _ (rdA_size HR.out.n3 HR.out.m3)) (by rw [rdA_size HR.out.n3 HR.out.m3]; rfl) (rdA_one HR.out.n3 HR.out.m3) ?_)
   have HS := Lib.hid (setRow_heap _ _ _ (rdA TS D1) _ _ HZX.out)
   refine bodyPost_ret (results_cell_tmp2 rfl _ _ _ _ _ _ _ rfl HS.out Tryz.underlying65 rfl (infoRD _ (rdA_size HR.out.n3 HR.out.m3))) rfl ?_
   exact ⟨TS, rfl, HR.out.put HZX.out, below_setRow HLOW.out (by omega) _⟩
theorem lso_low {w : World} {base base' : Nat} {v : Value} {ls : List (List UInt8)} (h : LsO w base v ls) (hb : base' ≤ base) : LsO w base' v ls := by
 obtain ⟨hs, h1, h2⟩ := h.all
 exact ⟨hs, own_base h1 (fun k hk => by have := (h1.lt k hk).1; omega), fun j hj => by
  obtain ⟨q, k, a, b⟩ := h2 j hj
  exact ⟨q, k, a, own_base b (fun i hi => by have := (b.lt i hi).1; omega)⟩⟩
def RBodP (l : List UInt8) (w : World) (e : Ending) (w' : World) : Prop := ∃ v, e = .returned v ∧ LsO w' w.heap.size v (scan l).1 ∧ Below w.heap.size w w'
set_option maxRecDepth 100000 in
set_option maxHeartbeats 1600000 in
theorem rbodies_any (ts : List RF) (d : DD) (i : Nat) (hi : i < 3) (w : World) (h : RDB w ts d) :
  Calls Tryz.prog 53 #[.agg (rdA ts d), .int .i64 (i : Int)] w (RBodP (fD d i).now w) := by
 have HB1 := Lib.hid (Below.allocs w (.cells (rdA ts d) 65))
 have HROW : Hid ((w.alloc (.cells (rdA ts d) 65)).heap[w.heap.size]? = some (.cells (rdA ts d) 65 (0, 0))) := heap_alloc_last _ _
 have HR := Lib.hid (h.below HB1.out)
 have hi3i : (i : Int) < 3 := by omega
 have hti : i < ts.length := by rw [h.n3]; exact hi
 have ht : ts[i]? = some (ts[i]'hti) := List.getElem?_eq_getElem hti
 generalize ts[i]'hti = t at *
 have HF := Lib.hid (h.fd hi)
 have HT := Lib.hid ht
 have HNB : Hid ((fD d i).need ≤ 1000000) := by
  obtain ⟨t', f', _, a, _, _, b⟩ := h.at.file i hi
  rw [h.fd hi] at a
  cases a; exact b
 clear h ht hti
 go_enter Tryz.func53, Tryz.ntmps53
 go_upto_region 1 with fail
 generalize w.alloc (.cells (rdA ts d) 65) = w1 at *
 have HRG := Lib.hid (rd_range HR.out.n3 HR.out.m3 HROW.out i HT.out HF.out)
 have HHO := Lib.hid (rholds_any t (fD d i) w1 (HR.out.each i t _ HT.out HF.out).1.now HNB.out)
 have HLE : Hid ((fD d i).now.length ≤ 1000000) := Nat.le_trans (HR.out.each i t _ HT.out HF.out).1.now.ok.le HNB.out
 generalize (fD d i).now = L at *
 go_wp2_with ((with_reducible refine wpAt 11 ?_); refine wpList_load_mid rfl 62 _ rfl w.heap.size (i * 2) rfl (fA t (fD d i)).toList _ HRG.out Tryz.underlying62 rfl (infoFi (fA t (fD d i)) rfl) ?_)
 try rw [Array.toArray_toList]
 refine HHO.out.mono ?_
 rintro e w5 ⟨p5, c5, rfl, ho5, hb5⟩
 have HB5 := Lib.hid (HB1.out.trans (hb5.mono HB1.out.size))
 have HSC := Lib.hid (Frm.rscanO_any p5 L.length c5 L w5 (Cut.own_bs ho5) HLE.out)
 clear ho5 hb5 HHO
 go_wp2_with fail
 refine HSC.out.mono ?_
 rintro e w6 ⟨v, rfl, hls, hb6⟩
 have HB6 := Lib.hid (HB5.out.trans (hb6.mono HB5.out.size))
 have hls2 := lso_low hls HB5.out.size
 have HL6 := Lib.hid hls2
 clear hls hls2 hb6 HSC
 go_wp2_with fail
 go_ret
 exact ⟨v, rfl, HL6.out, HB6.out⟩
end Go.Proofs.YtnejjfglkindjaaGreatDoor.Rk
