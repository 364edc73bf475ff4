/- PARTS, JOINED: THE REFERENCE'S DISK: Do. Conditions: sizes that fit. THE REFERENCE'S DISK: Append, Cut. Conditions: sizes that fit. THE REFERENCE'S DISK: Crash. Conditions: sizes that fit. THE REFERENCE OF ROLLS: Clear, Append, Bodies. Conditions: sizes that fit. SLOTS: the reference: Load. Conditions: sizes that fit. SLOTS: the reference: Open. Conditions: sizes that fit; a disk that is up. SLOTS: the reference: Put. Conditions: sizes that fit. THE CALLS OF A STATEMENT ON SLOTS, as they lie in memory; are there not too many? Conditions: a sum that fits. THE LAW OF SLOTS: what a call leaves, and its boxes. Conditions: none. PLAIN PART OF THE LAW OF VAULTS: disk, slots and vault stand together through all calls. Conditions: at most 1100 bytes and calls. -/
import Derived.Test.YtnejjfglkindjaaGreatDoorVo1
import Derived.Test.YtnejjfglkindjaaGreatDoorVo2
import Derived.Test.YtnejjfglkindjaaGreatDoorVo3
import Derived.Test.YtnejjfglkindjaaGreatDoorVo4
import Derived.Test.YtnejjfglkindjaaGreatDoorVo5
import Derived.Test.YtnejjfglkindjaaGreatDoorVo6
import Derived.Test.YtnejjfglkindjaaGreatDoorVo7
import Derived.Test.YtnejjfglkindjaaGreatDoorVo8
namespace Go.Proofs.YtnejjfglkindjaaGreatDoor.Rk
open Go.RowKit Go.Mir Go.Mir.Parts Dk
theorem threes (w : World) (a b c : Obj) : (((w.alloc a).alloc b).alloc c).heap[w.heap.size]? = some a ∧ (((w.alloc a).alloc b).alloc c).heap[w.heap.size + 1]? = some b ∧ (((w.alloc a).alloc b).alloc c).heap[w.heap.size + 2]? = some c ∧ (((w.alloc a).alloc b).alloc c).heap.size = w.heap.size + 3 ∧ Below w.heap.size w (((w.alloc a).alloc b).alloc c) := by
 obtain ⟨h1, h2, h3, h4⟩ := two_allocs w a b
 have hb : Below ((w.alloc a).alloc b).heap.size ((w.alloc a).alloc b) (((w.alloc a).alloc b).alloc c) := Below.allocs _ _
 refine ⟨Below.keepOld hb h1, Below.keepOld hb h2, ?_, by simp, h4.trans (hb.mono h4.size)⟩
 have := heap_alloc_last ((w.alloc a).alloc b) c
 rwa [h3] at this
theorem doE_down {d : DD} {i : Nat} {f : FD} {s : St} (h : d.down = true) : doD d i f s = d ∧ doE d i f s = 18 := by
 unfold doD doE
 rw [if_pos h, if_pos h]; exact ⟨rfl, rfl⟩
theorem doE_full {d : DD} {i : Nat} {f : FD} {s : St} (h : d.down = false) (hr : d.room < usedL d.fs - f.need + max f.need (s.size f.now.length)) : doD d i f s = d ∧ doE d i f s = 17 := by
 unfold doD doE
 have hn : ¬ d.down = true := by rw [h]; decide
 rw [if_neg hn, if_pos hr, if_neg hn, if_pos hr]; exact ⟨rfl, rfl⟩
theorem doE_ok {d : DD} {i : Nat} {f : FD} {s : St} (h : d.down = false) (hr : ¬ d.room < usedL d.fs - f.need + max f.need (s.size f.now.length)) : doD d i f s = (setF d i (f.take s)).burn ∧ doE d i f s = if (setF d i (f.take s)).burn.down = true then 18 else 0 := by
 unfold doD doE
 have hn : ¬ d.down = true := by rw [h]; decide
 rw [if_neg hn, if_neg hr, if_neg hn, if_neg hr]; exact ⟨rfl, rfl⟩
theorem used_take {d : DD} {i : Nat} {f : FD} {s : St} (hi : i < d.fs.length) (hf : d.fs[i] = f) : usedL (setF d i (f.take s)).fs = usedL d.fs - f.need + max f.need (s.size f.now.length) := by
 have h1 := usedL_set hi (f.take s)
 have h2 := usedL_mem hi
 rw [hf] at h1 h2
 have h3 : (f.take s).need = max f.need (s.size f.now.length) := rfl
 show usedL (d.fs.set i (f.take s)) = _
 omega
theorem RQ.beside {base g : Nat} {ts : List RF} {d : DD} {x y : World} (h : RQ base g ts d x) (k : KR base x y) (hr : y.heap[g]? = x.heap[g]?) : RQ base g ts d y :=
 ⟨by rw [hr]; exact h.row, h.low, h.n3, h.m3, fun i t f a b => ⟨(h.each i t f a b).1.step k, (h.each i t f a b).2⟩, h.room1, h.fuse1, h.used⟩
theorem RQ.twin {base g : Nat} {ts : List RF} {d : DD} {x : World} (h : RQ base g ts d x) (hb : base ≤ x.heap.size) : RQ base x.heap.size ts d ((x.alloc (.cells zD 65)).setRow x.heap.size (rdA ts d)) ∧ Below x.heap.size x ((x.alloc (.cells zD 65)).setRow x.heap.size (rdA ts d)) := by
 have h1 : Below x.heap.size x ((x.alloc (.cells zD 65)).setRow x.heap.size (rdA ts d)) := below_setRow (Below.allocs x _) (Nat.le_refl _) _
 refine ⟨⟨setRow_heap _ _ _ _ _ _ (heap_alloc_last x _), hb, h.n3, h.m3, fun i t f a b => ⟨(h.each i t f a b).1.step (.of_below h1), (h.each i t f a b).2⟩, h.room1, h.fuse1, h.used⟩, h1⟩
theorem row_rangeR {w : World} {b : Nat} {A : Array Value} {t : TypeId} {fr : Nat × Nat} (h : w.heap[b]? = some (.cells A t fr)) : w.rangeAt b 0 A.toList := fun j v hv => by
 rw [cell_of_row _ _ _ _ _ _ h, ← Array.getElem?_toList, Nat.zero_add]; exact hv
theorem take_len (f : FD) (s : St) : (f.take s).steps.length = f.steps.length + 1 := by
 show (f.steps ++ [s]).length = _
 simp
theorem one_rows {w : World} {p : Option Addr} {c : Nat} {l : List St} {rows : List (List Value)} (h : Rs w p l.length c 3 rows) (hs : ∀ (i : Nat) (r : List Value) (s : St), rows[i]? = some r → l[i]? = some s → StR w r s) : ∀ u ∈ rows.flatten, u.oneCell' = true := by
 intro u hu
 obtain ⟨r, hr, hur⟩ := List.mem_flatten.1 hu
 obtain ⟨i, hi, rfl⟩ := List.mem_iff_getElem.1 hr
 have hil : i < l.length := by rw [← h.count]; exact hi
 have hst := hs i rows[i] l[i] (List.getElem?_eq_getElem hi) (List.getElem?_eq_getElem hil)
 generalize rows[i] = r at *
 generalize l[i] = s at *
 cases s with
 | put B =>
  obtain ⟨q, k, rfl, _⟩ := hst
  simp only [List.mem_cons, List.not_mem_nil, or_false] at hur
  rcases hur with rfl | rfl | rfl <;> rfl
 | cut m =>
  have hst : r = _ := hst
  subst hst
  simp only [List.mem_cons, List.not_mem_nil, or_false] at hur
  rcases hur with rfl | rfl | rfl <;> rfl
set_option maxRecDepth 100000 in
set_option maxHeartbeats 6400000 in
theorem rdo_put (ts : List RF) (d : DD) (i : Nat) (hi : i < 3) (f : FD) (hf : d.fs[i]? = some f) (B : List UInt8) (q : Option Addr) (k : Nat) (w : World) (h : RDB w ts d) (hur : usedL d.fs ≤ d.room) (hb : ∀ y, KR 0 w y → Bs y q B.length k B) (hu : B.length ≤ 60000) (hfew : f.steps.length + 1 ≤ 2199023255552) :
  Calls Tryz.prog 48 #[.agg (rdA ts d), .int .i64 (i : Int), .agg #[.bool false, .int .i64 0, .slice q B.length k]] w (ROut (doD d i f (.put B)) (doE d i f (.put B)) w) := by
 have hs : (St.put B).ok f.now.length := trivial
 have hu2 : (St.put B).units ≤ 60000 := hu
 have hsr : ∀ y, KR 0 w y → StR y [.bool false, .int .i64 0, .slice q B.length k] (.put B) := fun y hy => ⟨q, k, rfl, hb y hy⟩
 have hsz0 : (St.put B).size f.now.length ≤ f.now.length + 60000 := by show f.now.length + B.length ≤ _; omega
 have hz := zeroD
 obtain ⟨q1, q2, q3, q4, q5⟩ := threes w (.cells (rdA ts d) 65) (.cells (#[.bool false, .int .i64 0, .slice q B.length k] : Array Value) 112) (.cells zD 65)
 have HQ : Hid (RQ w.heap.size w.heap.size ts d (((w.alloc (.cells (rdA ts d) 65)).alloc (.cells (#[.bool false, .int .i64 0, .slice q B.length k] : Array Value) 112)).alloc (.cells zD 65))) := RQ.of h q5 (Nat.le_refl _) q1
 have HSB := Lib.hid q2
 have HZX := Lib.hid q3
 have HSZ := Lib.hid q4
 have HLOW := Lib.hid q5
 clear q1 q2 q3 q4 q5
 have hi3 : i < d.fs.length := by rw [h.m3]; exact hi
 have hfe : d.fs[i] = f := by rw [List.getElem?_eq_getElem hi3] at hf; exact Option.some.inj hf
 have hti : i < ts.length := by rw [h.n3]; exact hi
 have ht : ts[i]? = some (ts[i]'hti) := List.getElem?_eq_getElem hti
 generalize ts[i]'hti = t at *
 obtain ⟨hrf, hnd⟩ := h.each i t f ht hf
 obtain ⟨rows, hrw⟩ := hrf
 have hrf := (hrw w (KR.refl _ _)).at
 have hrs := (hrw w (KR.refl _ _)).rs
 have hst := (hrw w (KR.refl _ _)).st
 have HRB := Lib.hid hrw
 have hnb : f.need ≤ 1000000 := by have h1 := usedL_mem hi3; have h2 := h.used; rw [hfe] at h1; omega
 have HUT := Lib.hid (used_take (s := (St.put B)) hi3 hfe)
 have hnl := hrf.ok.le
 have HTK := Lib.hid (FD.take_ok hrf.ok hs (by omega))
 have HNT := Lib.hid (nd_take hnd hrf.ok hs)
 have hub := h.used
 have hr65 := h.room1.2
 have HFU : Hid (usedL (setF d i (f.take (St.put B))).fs ≤ 1000000) := by
  show _ ≤ _
  rw [HUT.out]
  have h3 := usedL_mem hi3
  rw [hfe] at h3
  have h4 : (St.put B).size f.now.length ≤ f.now.length + 60000 := hsz0
  omega
 have HF := Lib.hid hf
 have HT := Lib.hid ht
 have HRF := Lib.hid hrf
 have HRS := Lib.hid hrs
 have HST := Lib.hid hst
 have HSR := Lib.hid hsr
 have HNB := Lib.hid hnb
 have HFEW := Lib.hid hfew
 have d1 : decide ((i : Int) < 0) = false := decide_eq_false (by omega)
 have d2 : decide ((2 : Int) < (i : Int)) = false := decide_eq_false (by omega)
 have d3 : decide (2 < i) = false := decide_eq_false (by omega)
 have HRO := Lib.hid hur
 clear hf hfe hnd hrs hst hnb hub hrf ht hsr hfew hrw
 clear h hur hb hu2 hsz0 hnl hr65 hi3 hti
 obtain ⟨DX, hDX⟩ : ∃ DX, doD d i f (.put B) = DX := ⟨_, rfl⟩
 obtain ⟨EX, hEX⟩ : ∃ EX, doE d i f (.put B) = EX := ⟨_, rfl⟩
 rw [hDX, hEX]
 have HDX := Lib.hid hDX
 have HEX := Lib.hid hEX
 clear hDX hEX hs
 go_enter Tryz.func48, Tryz.ntmps48
 go_upto_region 1 with fail
 generalize ((w.alloc (.cells (rdA ts d) 65)).alloc (.cells #[.bool false, .int .i64 0, .slice q B.length k] 112)).alloc (.cells zD 65) = w2 at *
 have HC0 : Hid (∀ w', Below w2.heap.size w2 w' → w'.cell? ⟨w.heap.size + 1, 0, none⟩ = some (.bool false)) := fun w' hb => by rw [cell_of_row _ _ _ _ _ _ (Below.keepOld hb HSB.out)]; rfl
 have HC1 : Hid (∀ w', Below w2.heap.size w2 w' → w'.cell? ⟨w.heap.size + 1, 1, none⟩ = some (.int .i64 0)) := fun w' hb => by rw [cell_of_row _ _ _ _ _ _ (Below.keepOld hb HSB.out)]; rfl
 refine wp_region_eager [(0, true), (1, true), (2, true), (3, true), (4, true), (5, true), (6, true), (7, true), (8, true), (9, true), (10, true), (11, true), (12, true), (13, true), (14, true), (15, true), (16, true), (17, true), (18, true), (19, true), (20, false), (21, true), (22, true), (23, true), (24, true), (25, true)] (by kernel_rfl) (by kernel_rfl) (eagerOpen rfl ?_)
 have hyl : Below w2.heap.size w2 w2.drew := below_drew1 _ _
 repeat (first
  | ((first | (apply wpEager_take; (· rfl); (· (intro w' hb'; go_simp; try with_reducible rfl))) | refine wpEager_skip (by rfl) ?_ | refine wpEager_off (by rfl) ?_); (try simp only [Act.put, zA, zB, zC]); (try refine eagerOpen rfl ?_))
  | (apply wpEager_take; (· rfl); (· (intro w' hb'; have hk' := (fun w' hb => HC0.out w' hb) w' hb'; go_split_ands; go_simp; try with_reducible rfl)); (try simp only [Act.put, zA, zB, zC]); (try refine eagerOpen rfl ?_)))
 refine eagerEnd ?_
 skip
 have hq1 := HQ.out.next hyl
 have hs1 := Below.keepOld hyl HSB.out
 have hz1 := Below.keepOld hyl HZX.out
 have hl1 := HLOW.out.trans (hyl.mono HLOW.out.size)
 clear HQ HSB HZX HLOW HC0 HC1 HSZ
 have HQ := Lib.hid hq1
 have HSB := Lib.hid hs1
 have HZX := Lib.hid hz1
 have HLOW := Lib.hid hl1
 clear hq1 hs1 hz1 hl1 hyl
 generalize w2.drew = w3 at *
 obtain ⟨_, _, hc8, _⟩ := HQ.out.cells
 cases hdn : d.down with
 | true =>
  obtain ⟨s1, s2⟩ := doE_down (i := i) (f := f) (s := .put B) hdn
  rw [HDX.out] at s1
  rw [HEX.out] at s2
  clear HDX HEX
  subst DX EX
  rw [hdn] at hc8
  clear hdn
  go_upto_region 4 with fail
  clear hc8
  skip
  go_wp2_with (first
   | refine wpList_load_row rfl 65 _ rfl w.heap.size rfl 65 (rdA ts d) (0, 0) _ HQ.out.row Tryz.underlying65 rfl (infoRD _ (rdA_size HQ.out.n3 HQ.out.m3)) ?_
   | refine wpList_store_row rfl 65 _ _ rfl (w.heap.size + 2) (rdA ts d) rfl rfl 65 zD HZX.out (infoRD _ (rdA_size HQ.out.n3 HQ.out.m3)) (by rw [rdA_size HQ.out.n3 HQ.out.m3]; rfl) (rdA_one HQ.out.n3 HQ.out.m3) ?_)
  have HS := Lib.hid (setRow_heap _ _ _ (rdA ts d) _ _ HZX.out)
  refine bodyPost_ret (results_cell_tmp2 rfl _ _ _ _ _ _ _ rfl HS.out Tryz.underlying65 rfl (infoRD _ (rdA_size HQ.out.n3 HQ.out.m3))) rfl ?_
  exact ⟨ts, rfl, HQ.out.done HZX.out (by omega), below_setRow HLOW.out (by omega) _⟩
 | false =>
  rw [hdn] at hc8
  skip
  go_upto_region 6 with (first
   | refine wpList_load_row rfl 65 _ rfl w.heap.size rfl 65 (rdA ts d) (0, 0) _ HQ.out.row Tryz.underlying65 rfl (infoRD _ (rdA_size HQ.out.n3 HQ.out.m3)) ?_
   | refine wpList_store_row rfl 65 _ _ rfl w3.heap.size (rdA ts d) rfl rfl 65 zD (heap_alloc_last _ _) (infoRD _ (rdA_size HQ.out.n3 HQ.out.m3)) (by rw [rdA_size HQ.out.n3 HQ.out.m3]; rfl) (rdA_one HQ.out.n3 HQ.out.m3) ?_)
  try simp only [Act.put]
  clear hc8
  have hws : w.heap.size + 2 < w3.heap.size := (Array.getElem?_eq_some_iff.1 HZX.out).1
  obtain ⟨hq4, hb4⟩ := HQ.out.twin (by omega)
  have hq1 := HQ.out.next hb4
  have hs1 := Below.keepOld hb4 HSB.out
  have hz1 := Below.keepOld hb4 HZX.out
  have hl1 := HLOW.out.trans (hb4.mono HLOW.out.size)
  have hs4 : w3.heap.size < ((w3.alloc (.cells zD 65)).setRow w3.heap.size (rdA ts d)).heap.size := (Array.getElem?_eq_some_iff.1 hq4.row).1
  clear HQ HSB HZX HLOW
  generalize (w3.alloc (.cells zD 65)).setRow w3.heap.size (rdA ts d) = w4 at *
  have HQ1 := Lib.hid hq1
  have HQ2 := Lib.hid hq4
  have HSB := Lib.hid hs1
  have HZX := Lib.hid hz1
  have HLOW := Lib.hid hl1
  have HS4 := Lib.hid hb4
  clear hq4 hq1 hs1 hz1 hl1 hb4
  have hcf := (rdA_file HQ1.out.n3 HQ1.out.m3 i HT.out HF.out).2
  have hkc : Hid (∀ w', Below w3.heap.size w3 w' → w'.cell? ⟨w.heap.size, i * 2 + 1, none⟩ = some (.slice t.sp f.steps.length t.sc)) := fun w' hb => by
   have h3 : w3.heap[w.heap.size]? = some (.cells (rdA ts d) 65 (0, 0)) := by rw [← HS4.out.block _ (by omega)]; exact HQ1.out.row
   rw [cell_of_row _ _ _ _ _ _ (Below.keepOld hb h3)]; exact hcf
  have hkM : Hid (∀ w', Below w3.heap.size w3 w' → w'.rangeAt (w.heap.size + 1) 0 (#[.bool false, .int .i64 0, .slice q B.length k] : Array Value).toList) := fun w' hb => by
   have h3 : w3.heap[w.heap.size + 1]? = some (.cells (#[.bool false, .int .i64 0, .slice q B.length k] : Array Value) 112 (0, 0)) := by rw [← HS4.out.block _ (by omega)]; exact HSB.out
   exact row_rangeR (Below.keepOld hb h3)
  clear hcf
  have hi3j : (i : Int) < 3 := by omega
  have HON : Hid (∀ u ∈ rows.flatten, u.oneCell' = true) := one_rows HRS.out HST.out
  have HON2 : Hid (∀ u ∈ (#[.bool false, .int .i64 0, .slice q B.length k] : Array Value).toList, u.oneCell' = true) := by
   show ∀ u ∈ _, _
   intro u hu
   simp only [List.mem_cons, List.not_mem_nil, or_false] at hu
   rcases hu with rfl | rfl | rfl <;> rfl
  have HK1 : Hid (0 + f.steps.length ≤ 9223372036854775807 ∧ (0 + f.steps.length) * 40 ≤ 140737488355328) := ⟨by have := HFEW.out; omega, by have := HFEW.out; omega⟩
  have HK3 : Hid (f.steps.length + 1 ≤ 9223372036854775807 ∧ (f.steps.length + 1) * 40 ≤ 140737488355328) := ⟨by have := HFEW.out; omega, by have := HFEW.out; omega⟩
  have HK2 : Hid (0 + f.steps.length + 1 ≤ 9223372036854775807 ∧ (0 + f.steps.length + 1) * 40 ≤ 140737488355328) := ⟨by have := HFEW.out; omega, by have := HFEW.out; omega⟩
  refine wp_region_tree (Below w3.heap.size w3) (.take 0 (.take 2 (.take 3 (.take 4 (.take 5 (.take 6 (.take 8 (.take 11 (.two 1 9 (.two 7 9 (.one 9 (.one 10 (.take 12 (.take 13 (.one 14 .nil))))) (.one 7 (.one 10 (.take 12 (.take 13 (.one 14 .nil)))))) (.one 1 (.one 7 (.one 10 (.take 12 (.take 13 (.one 14 .nil)))))))))))))))  (by kernel_rfl) (by kernel_rfl) (HS4.out.trans ((below_drew1 _ _).mono HS4.out.size)) ?_
  have hyd : Below w4.heap.size w4 w4.drew := below_drew1 _ _
  have hzd : w3.heap.size < w4.drew.heap.size := hs4
  have hq1 := HQ1.out.next hyd
  have hq4 := HQ2.out.next hyd
  have hs1 := Below.keepOld hyd HSB.out
  have hz1 := Below.keepOld hyd HZX.out
  have hl1 := HLOW.out.trans (hyd.mono HLOW.out.size)
  have hsd := HS4.out.trans (hyd.mono HS4.out.size)
  clear HQ1 HQ2 HSB HZX HLOW HS4 hyd hs4
  generalize w4.drew = wd at *
  have HQ1 := Lib.hid hq1
  have HQ2 := Lib.hid hq4
  have HZX := Lib.hid hz1
  have HLOW := Lib.hid hl1
  have HSD := Lib.hid hsd
  clear hq1 hq4 hs1 hz1 hl1 hsd
  have hSL : Hid (∀ w', Below wd.heap.size wd w' → Sl w' t.sp f.steps.length t.sc 3 rows.flatten) := fun w' hb => HRS.out.sl.below (HLOW.out.trans (hb.mono HLOW.out.size))
  iterate 5 ((apply tree_take; (· rfl); (· rfl); (· (intro w' hb'; go_simp; try with_reducible rfl)); try simp only [Act.put, zA, zB, zC]))
  (apply tree_take; (· rfl); (· rfl); (· (intro w' hb'; have hk' := (hkc.out) w' hb'; go_simp; try with_reducible rfl)); try simp only [Act.put, zA, zB, zC])
  refine tree_load rfl (by rfl) 112 _ rfl (w.heap.size + 1) 0 rfl (#[.bool false, .int .i64 0, .slice q B.length k] : Array Value) _ (fun w' hb => hkM.out w' hb) Tryz.underlying112 rfl (infoSt _ rfl) ?_
  try simp only [Act.put, zA, zB, zC]
  iterate 1 ((apply tree_take; (· rfl); (· rfl); (· (intro w' hb'; go_simp; try with_reducible rfl)); try simp only [Act.put, zA, zB, zC]))
  have hb0 : Below wd.heap.size wd (wd.alloc (.cells #[] 112)) := Below.allocs _ _
  have hb5 : Below wd.heap.size wd (wd.alloc (.cells (#[.bool false, .int .i64 0, .slice q B.length k] : Array Value) 112)) := Below.allocs _ _
  refine tree_key (fun a0 a' Y => ∃ (v41 v47 v49 : Value) (p9 : Option Addr) (c9 : Nat), a' = ((((a0.put (some 41) v41).put (some 47) v47).put (some 49) v49).put (some 50) (.slice p9 (f.steps.length + 1) c9)) ∧ Below wd.heap.size wd Y ∧ Y.ownsRow wd.heap.size 112 3 (.slice p9 (f.steps.length + 1) c9) (f.steps.length + 1) (rows.flatten ++ (#[.bool false, .int .i64 0, .slice q B.length k] : Array Value).toList)) (.take 12 (.take 13 (.one 14 .nil))) ?_ ?_
  ·rintro a' wf ⟨v41, v47, v49, p9, c9, ha, hbf, o9⟩
   rw [ha]
   clear ha a'
   try simp only [Act.put, zA, zB, zC]
   skip
   iterate 2 ((apply tree_take; (· rfl); (· rfl); (· (intro w' hb'; go_simp; try with_reducible rfl)); try simp only [Act.put, zA, zB, zC]))
   have hcf := (rdA_file HQ2.out.n3 HQ2.out.m3 i HT.out HF.out).2
   have hq6 := HQ2.out.next hbf
   have hc14 : wf.cell? ⟨w3.heap.size, i * 2 + 1, none⟩ = some (.slice t.sp f.steps.length t.sc) := by rw [cell_of_row _ _ _ _ _ _ hq6.row]; exact hcf
   have hfz14 : wf.frozen? ⟨w3.heap.size, i * 2 + 1, none⟩ = false := frozen_of_row _ _ _ _ _ hq6.row
   have hsn : Rb w.heap.size wf ⟨t.kp, t.kc, p9, c9⟩ (f.take (St.put B)) := Rb.snoc HRB.out HSR.out rfl HTK.out (by have := HFEW.out; omega) (HLOW.out.trans (hbf.mono HLOW.out.size)) o9
   obtain ⟨hq7, hk7⟩ := hq6.steps i hi HT.out HF.out p9 c9 (f.take (St.put B)) rfl hsn HNT.out HFU.out
   rw [take_len] at hq7 hk7
   have hst7 : Below w3.heap.size w3 (wf.setCell ⟨w3.heap.size, i * 2 + 1, none⟩ (.slice p9 (f.steps.length + 1) c9)) := (HSD.out.trans (hbf.mono HSD.out.size)).trans (Turns.below ((Turns.refl (fun k => k = w3.heap.size) wf).setCell (p := ⟨w3.heap.size, i * 2 + 1, none⟩) (fun _ => rfl) _) (by have := hbf.size; omega) (fun _ e => by omega))
   refine tree_one rfl (by rfl) (fun K hK => ?_)
   go_simp
   refine Shut.out hK _ _ hst7 ?_
   clear hK K
   try simp only [Act.put, zA, zB, zC]
   refine tree_nil ?_
   have hno : ∀ k : Nat, k < w3.heap.size → (wf.setCell ⟨w3.heap.size, i * 2 + 1, none⟩ (.slice p9 (f.steps.length + 1) c9)).heap[k]? = wd.heap[k]? := fun k hk => by rw [hst7.block k hk, HSD.out.block k hk]
   have hq8 := (HQ1.out.next hbf).beside hk7 (by rw [hno _ (by omega)]; exact ((hbf.block _ (by omega)).symm))
   have hz8 : (wf.setCell ⟨w3.heap.size, i * 2 + 1, none⟩ (.slice p9 (f.steps.length + 1) c9)).heap[w.heap.size + 2]? = some (.cells zD 65 (0, 0)) := by rw [hno _ (by omega)]; exact HZX.out
   have hl8 := (HLOW.out.trans (hbf.mono HLOW.out.size)).trans (Turns.below ((Turns.refl (fun k => k = w3.heap.size) wf).setCell (p := ⟨w3.heap.size, i * 2 + 1, none⟩) (fun _ => rfl) (.slice p9 (f.steps.length + 1) c9)) (by have := hbf.size; omega) (fun _ e => by omega))
   have hw8 : w3.heap.size < (wf.setCell ⟨w3.heap.size, i * 2 + 1, none⟩ (.slice p9 (f.steps.length + 1) c9)).heap.size := (Array.getElem?_eq_some_iff.1 hq7.row).1
   clear hc14 hfz14 hcf hsn hq6 hno hst7 hk7 o9 HQ1 HQ2 HZX HLOW HSD hSL hkc hkM
   generalize wf.setCell ⟨w3.heap.size, i * 2 + 1, none⟩ (.slice p9 (f.steps.length + 1) c9) = w7 at *
   have HQ := Lib.hid hq8
   have HQ2 := Lib.hid hq7
   have HZX := Lib.hid hz8
   have HLOW := Lib.hid hl8
   clear hq8 hq7 hz8 hl8
   have hus := HUT.out
   obtain ⟨DN, hDN⟩ : ∃ DN, setF d i (f.take (St.put B)) = DN := ⟨_, rfl⟩
   obtain ⟨TN, hTN⟩ : ∃ TN, ts.set i ⟨t.kp, t.kc, p9, c9⟩ = TN := ⟨_, rfl⟩
   have hq2 := HQ2.out
   rw [hDN, hTN] at hq2
   have hE1 := @doE_full d i f (St.put B) hdn
   have hE2 := @doE_ok d i f (St.put B) hdn
   rw [hDN] at hus hE2
   rw [← hus, HDX.out, HEX.out] at hE1 hE2
   generalize usedL d.fs - f.need + max f.need ((St.put B).size f.now.length) = UN at hus
   have HE1 := Lib.hid hE1
   have HE2 := Lib.hid hE2
   have hgs : Hid (w.heap.size + 2 < w3.heap.size) := hws
   clear hE1 hE2 HQ2 HUT HTK HNT HFU HF HT HRF HRS HST HSR HRB HNB HFEW HRO HDX HEX hus hDN hTN HON HON2 HK1 HK2 HK3
   have HQ2 := Lib.hid hq2
   clear hq2
   obtain ⟨hc6, _, _, _⟩ := HQ.out.cells
   have HRM : Hid (∀ w', Below w7.heap.size w7 w' → w'.cell? ⟨w.heap.size, 6, none⟩ = some (.int .i64 (d.room : Int))) := fun w' hb => (HQ.out.next hb).cells.1
   have HLA : Hid (∀ w', Below w7.heap.size w7 w' → w'.rangeAt w3.heap.size 0 (rdA TN DN).toList) := fun w' hb => row_rangeR (Below.keepOld hb HQ2.out.row)
   clear hc6
   go_upto_region 7 with fail
   refine wp_region_eager [(0, true), (2, true), (3, true), (1, false), (4, true)] (by kernel_rfl) (by kernel_rfl) (eagerOpen rfl ?_)
   have hy0 : Below w7.heap.size w7 w7.drew := below_drew1 _ _
   repeat (first
    | ((with_reducible refine eagerLoadAt 8 ?_); refine wpEager_load (by rfl) 65 _ rfl w3.heap.size 0 rfl (rdA TN DN) _ (fun w' hb => HLA.out w' hb) Tryz.underlying65 rfl (infoRD _ (rdA_size HQ2.out.n3 HQ2.out.m3)) ?_; (try simp only [Act.put, zA, zB, zC]); (try refine eagerOpen rfl ?_))
    | ((first | (apply wpEager_take; (· rfl); (· (intro w' hb'; go_simp; try with_reducible rfl))) | refine wpEager_skip (by rfl) ?_ | refine wpEager_off (by rfl) ?_); (try simp only [Act.put, zA, zB, zC]); (try refine eagerOpen rfl ?_))
    | (apply wpEager_take; (· rfl); (· (intro w' hb'; have hk' := (fun w' hb => HRM.out w' hb) w' hb'; go_split_ands; go_simp; try with_reducible rfl)); (try simp only [Act.put, zA, zB, zC]); (try refine eagerOpen rfl ?_)))
   (refine wpEager_op (by rfl) (fun K hK => ?_); go_simp; (refine (rused_any TN DN _ (HQ2.out.next hy0).at).mono ?_; rintro e y1 ⟨rfl, hb⟩; have hy1 := hy0.trans hb; clear hb); refine Shut.out hK _ _ (by assumption) ?_; clear hK K; (try simp only [Act.put, zA, zB, zC]); (try refine eagerOpen rfl ?_))
   by_cases hr : d.room < usedL DN.fs
   ·obtain ⟨s1, s2⟩ := HE1.out hr
    subst DX EX
    have hd1 : decide ((d.room : Int) < (usedL DN.fs : Int)) = true := decide_eq_true (by omega)
    have hd2 : decide (d.room < usedL DN.fs) = true := decide_eq_true hr
    repeat (first
     | ((first | (apply wpEager_take; (· rfl); (· (intro w' hb'; go_simp; try with_reducible rfl))) | refine wpEager_skip (by rfl) ?_ | refine wpEager_off (by rfl) ?_); (try simp only [Act.put, zA, zB, zC]); (try refine eagerOpen rfl ?_)))
    refine eagerEnd ?_
    have hq1 := HQ.out.next hy1
    have hz1 := Below.keepOld hy1 HZX.out
    have hl1 := HLOW.out.trans (hy1.mono HLOW.out.size)
    clear HQ HQ2 HZX HLOW HRM HLA hy0 hy1 HE1 HE2
    have HQ := Lib.hid hq1
    have HZX := Lib.hid hz1
    have HLOW := Lib.hid hl1
    clear hq1 hz1 hl1
    go_upto_region 8 with fail
    skip
    go_wp2_with (first
     | refine wpList_load_row rfl 65 _ rfl w.heap.size rfl 65 (rdA ts d) (0, 0) _ HQ.out.row Tryz.underlying65 rfl (infoRD _ (rdA_size HQ.out.n3 HQ.out.m3)) ?_
     | refine wpList_store_row rfl 65 _ _ rfl (w.heap.size + 2) (rdA ts d) rfl rfl 65 zD HZX.out (infoRD _ (rdA_size HQ.out.n3 HQ.out.m3)) (by rw [rdA_size HQ.out.n3 HQ.out.m3]; rfl) (rdA_one HQ.out.n3 HQ.out.m3) ?_)
    have HS := Lib.hid (setRow_heap _ _ _ (rdA ts d) _ _ HZX.out)
    refine bodyPost_ret (results_cell_tmp2 rfl _ _ _ _ _ _ _ rfl HS.out Tryz.underlying65 rfl (infoRD _ (rdA_size HQ.out.n3 HQ.out.m3))) rfl ?_
    exact ⟨ts, rfl, HQ.out.done HZX.out (by omega), below_setRow HLOW.out (by omega) _⟩
   ·have HSS := Lib.hid (HE2.out hr)
    have hd1 : decide ((d.room : Int) < (usedL DN.fs : Int)) = false := decide_eq_false (by omega)
    have hd2 : decide (d.room < usedL DN.fs) = false := decide_eq_false hr
    repeat (first
     | ((first | (apply wpEager_take; (· rfl); (· (intro w' hb'; go_simp; try with_reducible rfl))) | refine wpEager_skip (by rfl) ?_ | refine wpEager_off (by rfl) ?_); (try simp only [Act.put, zA, zB, zC]); (try refine eagerOpen rfl ?_)))
    refine eagerEnd ?_
    have hq1 := HQ2.out.next hy1
    have hz1 := Below.keepOld hy1 HZX.out
    have hl1 := HLOW.out.trans (hy1.mono HLOW.out.size)
    clear HQ HQ2 HZX HLOW HRM HLA hy0 hy1 HE1 HE2 hr
    have HQ2 := Lib.hid hq1
    have HZX := Lib.hid hz1
    have HLOW := Lib.hid hl1
    clear hq1 hz1 hl1
    have HBU := Lib.hid (rburn_any TN DN y1 HQ2.out.n3 HQ2.out.m3 HQ2.out.fuse1)
    go_upto_region 9 with fail
    go_wp2_with (refine wpList_load_row rfl 65 _ rfl w3.heap.size rfl 65 (rdA TN DN) (0, 0) _ HQ2.out.row Tryz.underlying65 rfl (infoRD _ (rdA_size HQ2.out.n3 HQ2.out.m3)) ?_)
    refine HBU.out.mono ?_
    rintro e w8 ⟨rfl, hb8⟩
    have hq3 := HQ2.out.next hb8
    obtain ⟨hq4, hk4⟩ := hq3.burn
    obtain ⟨s1, s2⟩ := HSS.out
    rw [← s1] at s2 hq4 hk4 ⊢
    have HS2 := Lib.hid s2
    clear s1 s2 HSS
    have HQ3 := Lib.hid hq3
    have HD3 : Hid (DX.fs.length = 3) := hq4.m3
    have hz4 : (w8.setRow w3.heap.size (rdA TN DX)).heap[w.heap.size + 2]? = some (.cells zD 65 (0, 0)) := by rw [setRow_other _ _ _ _ (by omega)]; exact Below.keepOld hb8 HZX.out
    have HZ5 := Lib.hid hz4
    have HL5 : Hid (Below w.heap.size w (w8.setRow w3.heap.size (rdA TN DX))) := below_setRow (HLOW.out.trans (hb8.mono HLOW.out.size)) (by omega) _
    have HQ := Lib.hid hq4
    clear HQ2 HZX HLOW HBU hb8 hq3 hq4 hk4 hz4
    go_upto_region 10 with (refine wpList_store_row rfl 65 _ _ rfl w3.heap.size (rdA TN DX) rfl rfl 65 (rdA TN DN) HQ3.out.row (infoRD _ (rdA_size HQ3.out.n3 HD3.out)) (by rw [rdA_size HQ3.out.n3 HD3.out, rdA_size HQ3.out.n3 HQ3.out.m3]) (rdA_one HQ3.out.n3 HD3.out) ?_)
    try simp only [Act.put]
    clear HQ3
    generalize w8.setRow w3.heap.size (rdA TN DX) = w9 at *
    have HZX := HZ5
    have HLOW := HL5
    clear HZ5 HL5
    have HAN : Hid ((if DX.down = true then (18 : Int) else 0) = EX) := HS2.out.symm
    clear HS2 hd1 hd2
    skip
    have HLA : Hid (∀ w', Below w9.heap.size w9 w' → w'.rangeAt w3.heap.size 0 (rdA TN DX).toList) := fun w' hb j v hv => by rw [cell_of_row _ _ _ _ _ _ (Below.keepOld hb HQ.out.row), ← Array.getElem?_toList, Nat.zero_add]; exact hv
    go_upto_region 10 with fail
    refine wp_region_eager_t (Below w9.heap.size w9) [0, 1] [(0, true), (1, true), (2, false)] [3, 4] (by kernel_rfl) (by kernel_rfl) ?_ (eagerTOpen rfl ?_)
    ·exact below_drew1 _ _
    have hy0 : Below w9.heap.size w9 w9.drew := below_drew1 _ _
    repeat (first
     | ((with_reducible refine eagerTLoadAt 8 ?_); refine wpEagerT_load (by rfl) 65 _ rfl w3.heap.size 0 rfl (rdA TN DX) _ (fun w' hb => HLA.out w' hb) Tryz.underlying65 rfl (infoRD _ (rdA_size HQ.out.n3 HQ.out.m3)) ?_; (try simp only [Act.put, zA, zB, zC]); (try refine eagerTOpen rfl ?_))
     | ((first | (apply wpEagerT_take; (· rfl); (· (intro w' hb'; go_simp; try with_reducible rfl))) | refine wpEagerT_skip (by rfl) ?_); (try simp only [Act.put, zA, zB, zC]); (try refine eagerTOpen rfl ?_)))
    (refine wpEagerT_op (by rfl) (fun K hK => ?_); go_simp; (refine (ranswer2 TN DX EX HAN.out _ HQ.out.n3 HQ.out.m3).mono ?_; rintro e y1 ⟨rfl, hb⟩; have hy1 := hy0.trans hb; clear hb); refine Shut.out hK _ _ (by assumption) ?_; clear hK K; (try simp only [Act.put, zA, zB, zC]); (try refine eagerTOpen rfl ?_))
    refine eagerTEnd (tail2 rfl rfl ?_)
    have hq1 := HQ.out.next hy1
    have hz1 := Below.keepOld hy1 HZX.out
    have hl1 := HLOW.out.trans (hy1.mono HLOW.out.size)
    clear HQ HZX HLOW HLA hy0 hy1
    have HQ := Lib.hid hq1
    have HZX := Lib.hid hz1
    have HLOW := Lib.hid hl1
    clear hq1 hz1 hl1
    go_wp2_with (refine wpList_store_row rfl 65 _ _ rfl (w.heap.size + 2) (rdA TN DX) rfl rfl 65 zD HZX.out (infoRD _ (rdA_size HQ.out.n3 HQ.out.m3)) (by rw [rdA_size HQ.out.n3 HQ.out.m3]; rfl) (rdA_one HQ.out.n3 HQ.out.m3) ?_)
    refine noPanic_end ?_
    go_wp2_with fail
    have HS := Lib.hid (setRow_heap _ _ _ (rdA TN DX) _ _ HZX.out)
    refine bodyPost_ret (results_cell_tmp2 rfl _ _ _ _ _ _ _ rfl HS.out Tryz.underlying65 rfl (infoRD _ (rdA_size HQ.out.n3 HQ.out.m3))) rfl ?_
    exact ⟨TN, rfl, HQ.out.done HZX.out (by omega), below_setRow HLOW.out (by omega) _⟩
  intro KEY
  refine tree_two ?_ (?_)
  ·refine tree_one rfl (by rfl) (fun K hK => ?_)
   go_simp
   refine Shut.out hK _ _ (HSD.out.trans (hb0.mono HSD.out.size)) ?_
   clear hK K
   try simp only [Act.put, zA, zB, zC]
   have o1 : (wd.alloc (.cells #[] 112)).ownsRow wd.heap.size 112 3 (.slice (some ⟨wd.heap.size, 0, none⟩) 0 0) 0 [] := own_made0 wd _ _ _ _ rfl (Nat.le_refl _)
   have hz1 : wd.heap.size ≤ (wd.alloc (.cells #[] 112)).heap.size := hb0.size
   generalize wd.alloc (.cells #[] 112) = wa at *
   refine tree_two ?_ ?_
   ·refine tree_one rfl (by rfl) (fun K hK => oper_of_list rfl ?_)
    refine wpList_append_nx rfl _ _ 60 rfl (base := wd.heap.size) Tryz.underlying60 infoSteps (by rfl) (by omega) rfl o1 rfl (hSL.out _ hb0) HON.out HK1.out hz1 ?_
    intro p2 c2 w5 o2 hg2 hnx2 _
    rw [Nat.zero_add f.steps.length] at *
    have hb2 : Below wd.heap.size wd w5 := hb0.grown hg2 hz1 (fun i hi => (o1.lt i hi).1)
    refine only_end (Shut.out hK _ _ (HSD.out.trans (hb2.mono HSD.out.size)) ?_)
    clear hK K
    try simp only [Act.put, zA, zB, zC]
    have hz2 : wd.heap.size ≤ w5.heap.size := hb2.size
    refine tree_one rfl (by rfl) (fun K hK => oper_of_list rfl ?_)
    refine wpList_buildOne rfl 60 112 _ rfl (#[.bool false, .int .i64 0, .slice q B.length k] : Array Value) rfl 3 Tryz.underlying60 (by kernel_rfl) (by omega) (by omega) rfl ?_
    have hb6 := hb2.alloc hz2 (.cells (#[.bool false, .int .i64 0, .slice q B.length k] : Array Value) 112)
    have o6 := own_below_alloc o2 (.cells (#[.bool false, .int .i64 0, .slice q B.length k] : Array Value) 112)
    have r6 := heap_alloc_last w5 (.cells (#[.bool false, .int .i64 0, .slice q B.length k] : Array Value) 112)
    have hz6 : wd.heap.size ≤ (w5.alloc (.cells (#[.bool false, .int .i64 0, .slice q B.length k] : Array Value) 112)).heap.size := hb6.size
    refine only_end (Shut.out hK _ _ (HSD.out.trans (hb6.mono HSD.out.size)) ?_)
    clear hK K
    try simp only [Act.put, zA, zB, zC]
    generalize w5.alloc (.cells (#[.bool false, .int .i64 0, .slice q B.length k] : Array Value) 112) = w6 at *
    refine tree_one rfl (by rfl) (fun K hK => oper_of_list rfl ?_)
    refine wpList_append_nx rfl _ _ 60 rfl (base := wd.heap.size) Tryz.underlying60 infoSteps (by rfl) (by omega) rfl o6 rfl (row_sl r6 3 rfl) HON2.out HK3.out hz6 ?_
    intro p9 c9 wf o9 hg9 hnx9 _
    have hbf : Below wd.heap.size wd wf := hb6.grown hg9 hz6 (fun i hi => (o6.lt i hi).1)
    refine only_end (Shut.out hK _ _ (HSD.out.trans (hbf.mono HSD.out.size)) ?_)
    clear hK K
    try simp only [Act.put, zA, zB, zC]
    refine KEY _ _ ?_
    try simp only [Act.put, zA, zB, zC]
    exact ⟨_, _, _, p9, c9, rfl, hbf, o9⟩
   ·refine tree_one rfl (by rfl) (fun K hK => oper_of_list rfl ?_)
    refine wpList_buildOne rfl 60 112 _ rfl (#[.bool false, .int .i64 0, .slice q B.length k] : Array Value) rfl 3 Tryz.underlying60 (by kernel_rfl) (by omega) (by omega) rfl ?_
    have hb2 := hb0.alloc hz1 (.cells (#[.bool false, .int .i64 0, .slice q B.length k] : Array Value) 112)
    have o2 := own_below_alloc o1 (.cells (#[.bool false, .int .i64 0, .slice q B.length k] : Array Value) 112)
    have r2 := heap_alloc_last wa (.cells (#[.bool false, .int .i64 0, .slice q B.length k] : Array Value) 112)
    have hz2 : wd.heap.size ≤ (wa.alloc (.cells (#[.bool false, .int .i64 0, .slice q B.length k] : Array Value) 112)).heap.size := hb2.size
    have hne : wa.heap.size ≠ wd.heap.size := fun e => by have := (o1.lt wd.heap.size rfl).2; omega
    refine only_end (Shut.out hK _ _ (HSD.out.trans (hb2.mono HSD.out.size)) ?_)
    clear hK K
    try simp only [Act.put, zA, zB, zC]
    generalize wa.alloc (.cells (#[.bool false, .int .i64 0, .slice q B.length k] : Array Value) 112) = wc at *
    refine tree_one rfl (by rfl) (fun K hK => oper_of_list rfl ?_)
    refine wpList_append_nx rfl _ _ 60 rfl (base := wd.heap.size) Tryz.underlying60 infoSteps (by rfl) (by omega) rfl o2 rfl (hSL.out _ hb2) HON.out HK1.out hz2 ?_
    intro p2 c2 w6 o6 hg2 hnx2 _
    rw [Nat.zero_add f.steps.length] at *
    rw [List.nil_append] at o6
    have hb6 : Below wd.heap.size wd w6 := hb2.grown hg2 hz2 (fun i hi => (o2.lt i hi).1)
    have r6 : w6.heap[wa.heap.size]? = some (.cells (#[.bool false, .int .i64 0, .slice q B.length k] : Array Value) 112 (0, 0)) := by
     rw [hg2.block _ (Array.getElem?_eq_some_iff.1 r2).1 (fun e => hne (by injection e))]
     exact r2
    refine only_end (Shut.out hK _ _ (HSD.out.trans (hb6.mono HSD.out.size)) ?_)
    clear hK K
    try simp only [Act.put, zA, zB, zC]
    have hz6 : wd.heap.size ≤ w6.heap.size := hb6.size
    refine tree_one rfl (by rfl) (fun K hK => oper_of_list rfl ?_)
    refine wpList_append_nx rfl _ _ 60 rfl (base := wd.heap.size) Tryz.underlying60 infoSteps (by rfl) (by omega) rfl o6 rfl (row_sl r6 3 rfl) HON2.out HK3.out hz6 ?_
    intro p9 c9 wf o9 hg9 hnx9 _
    have hbf : Below wd.heap.size wd wf := hb6.grown hg9 hz6 (fun i hi => (o6.lt i hi).1)
    refine only_end (Shut.out hK _ _ (HSD.out.trans (hbf.mono HSD.out.size)) ?_)
    clear hK K
    try simp only [Act.put, zA, zB, zC]
    refine KEY _ _ ?_
    try simp only [Act.put, zA, zB, zC]
    exact ⟨_, _, _, p9, c9, rfl, hbf, o9⟩
  ·refine tree_one rfl (by rfl) (fun K hK => oper_of_list rfl ?_)
   refine wpList_buildOne rfl 60 112 _ rfl (#[.bool false, .int .i64 0, .slice q B.length k] : Array Value) rfl 3 Tryz.underlying60 (by kernel_rfl) (by omega) (by omega) rfl ?_
   have r1 := heap_alloc_last wd (.cells (#[.bool false, .int .i64 0, .slice q B.length k] : Array Value) 112)
   have hz1 : wd.heap.size ≤ (wd.alloc (.cells (#[.bool false, .int .i64 0, .slice q B.length k] : Array Value) 112)).heap.size := hb5.size
   refine only_end (Shut.out hK _ _ (HSD.out.trans (hb5.mono HSD.out.size)) ?_)
   clear hK K
   try simp only [Act.put, zA, zB, zC]
   generalize wd.alloc (.cells (#[.bool false, .int .i64 0, .slice q B.length k] : Array Value) 112) = wa at *
   refine tree_one rfl (by rfl) (fun K hK => ?_)
   go_simp
   have hb2 := hb5.alloc hz1 (.cells #[] 112)
   refine Shut.out hK _ _ (HSD.out.trans (hb2.mono HSD.out.size)) ?_
   clear hK K
   try simp only [Act.put, zA, zB, zC]
   have o2 : (wa.alloc (.cells #[] 112)).ownsRow wd.heap.size 112 3 (.slice (some ⟨wa.heap.size, 0, none⟩) 0 0) 0 [] := own_made0 wa _ _ _ _ rfl hz1
   have r2 := block_old (.cells #[] 112) r1
   have hne : wd.heap.size ≠ wa.heap.size := fun e => by have := (Array.getElem?_eq_some_iff.1 r1).1; omega
   have hz2 : wd.heap.size ≤ (wa.alloc (.cells #[] 112)).heap.size := hb2.size
   generalize wa.alloc (.cells #[] 112) = wc at *
   refine tree_one rfl (by rfl) (fun K hK => oper_of_list rfl ?_)
   refine wpList_append_nx rfl _ _ 60 rfl (base := wd.heap.size) Tryz.underlying60 infoSteps (by rfl) (by omega) rfl o2 rfl (hSL.out _ hb2) HON.out HK1.out hz2 ?_
   intro p2 c2 w6 o6 hg2 hnx2 _
   rw [Nat.zero_add f.steps.length] at *
   rw [List.nil_append] at o6
   have hb6 : Below wd.heap.size wd w6 := hb2.grown hg2 hz2 (fun i hi => (o2.lt i hi).1)
   have r6 : w6.heap[wd.heap.size]? = some (.cells (#[.bool false, .int .i64 0, .slice q B.length k] : Array Value) 112 (0, 0)) := by
    rw [hg2.block _ (Array.getElem?_eq_some_iff.1 r2).1 (fun e => hne (by injection e))]
    exact r2
   refine only_end (Shut.out hK _ _ (HSD.out.trans (hb6.mono HSD.out.size)) ?_)
   clear hK K
   try simp only [Act.put, zA, zB, zC]
   have hz6 : wd.heap.size ≤ w6.heap.size := hb6.size
   refine tree_one rfl (by rfl) (fun K hK => oper_of_list rfl ?_)
   refine wpList_append_nx rfl _ _ 60 rfl (base := wd.heap.size) Tryz.underlying60 infoSteps (by rfl) (by omega) rfl o6 rfl (row_sl r6 3 rfl) HON2.out HK3.out hz6 ?_
   intro p9 c9 wf o9 hg9 hnx9 _
   have hbf : Below wd.heap.size wd wf := hb6.grown hg9 hz6 (fun i hi => (o6.lt i hi).1)
   refine only_end (Shut.out hK _ _ (HSD.out.trans (hbf.mono HSD.out.size)) ?_)
   clear hK K
   try simp only [Act.put, zA, zB, zC]
   refine KEY _ _ ?_
   try simp only [Act.put, zA, zB, zC]
   exact ⟨_, _, _, p9, c9, rfl, hbf, o9⟩
set_option maxRecDepth 100000 in
set_option maxHeartbeats 6400000 in
theorem rdo_cut (ts : List RF) (d : DD) (i : Nat) (hi : i < 3) (f : FD) (hf : d.fs[i]? = some f) (m : Nat) (hm : m ≤ f.now.length) (w : World) (h : RDB w ts d) (hur : usedL d.fs ≤ d.room) (hfew : f.steps.length + 1 ≤ 2199023255552) :
  Calls Tryz.prog 48 #[.agg (rdA ts d), .int .i64 (i : Int), .agg #[.bool true, .int .i64 (m : Int), .slice none 0 0]] w (ROut (doD d i f (.cut m)) (doE d i f (.cut m)) w) := by
 have hs : (St.cut m).ok f.now.length := hm
 have hu2 : (St.cut m).units ≤ 60000 := by show 1 ≤ 60000; omega
 have hsr : ∀ y, KR 0 w y → StR y [.bool true, .int .i64 (m : Int), .slice none 0 0] (.cut m) := fun _ _ => rfl
 have hsz0 : (St.cut m).size f.now.length ≤ f.now.length + 60000 := by show m ≤ _; omega
 have hz := zeroD
 obtain ⟨q1, q2, q3, q4, q5⟩ := threes w (.cells (rdA ts d) 65) (.cells #[.bool true, .int .i64 (m : Int), .slice none 0 0] 112) (.cells zD 65)
 have HQ : Hid (RQ w.heap.size w.heap.size ts d (((w.alloc (.cells (rdA ts d) 65)).alloc (.cells #[.bool true, .int .i64 (m : Int), .slice none 0 0] 112)).alloc (.cells zD 65))) := RQ.of h q5 (Nat.le_refl _) q1
 have HSB := Lib.hid q2
 have HZX := Lib.hid q3
 have HSZ := Lib.hid q4
 have HLOW := Lib.hid q5
 clear q1 q2 q3 q4 q5
 have hi3 : i < d.fs.length := by rw [h.m3]; exact hi
 have hfe : d.fs[i] = f := by rw [List.getElem?_eq_getElem hi3] at hf; exact Option.some.inj hf
 have hti : i < ts.length := by rw [h.n3]; exact hi
 have ht : ts[i]? = some (ts[i]'hti) := List.getElem?_eq_getElem hti
 generalize ts[i]'hti = t at *
 obtain ⟨hrf, hnd⟩ := h.each i t f ht hf
 obtain ⟨rows, hrw⟩ := hrf
 have hrf := (hrw w (KR.refl _ _)).at
 have hrs := (hrw w (KR.refl _ _)).rs
 have hst := (hrw w (KR.refl _ _)).st
 have HRB := Lib.hid hrw
 have hnb : f.need ≤ 1000000 := by have h1 := usedL_mem hi3; have h2 := h.used; rw [hfe] at h1; omega
 have HUT := Lib.hid (used_take (s := (St.cut m)) hi3 hfe)
 have hnl := hrf.ok.le
 have HTK := Lib.hid (FD.take_ok hrf.ok hs (by omega))
 have HNT := Lib.hid (nd_take hnd hrf.ok hs)
 have hub := h.used
 have hr65 := h.room1.2
 have HFU : Hid (usedL (setF d i (f.take (St.cut m))).fs ≤ 1000000) := by
  show _ ≤ _
  rw [HUT.out]
  have h3 := usedL_mem hi3
  rw [hfe] at h3
  have h4 : (St.cut m).size f.now.length ≤ f.now.length + 60000 := hsz0
  omega
 have HF := Lib.hid hf
 have HT := Lib.hid ht
 have HRF := Lib.hid hrf
 have HRS := Lib.hid hrs
 have HST := Lib.hid hst
 have HSR := Lib.hid hsr
 have HNB := Lib.hid hnb
 have HFEW := Lib.hid hfew
 have d1 : decide ((i : Int) < 0) = false := decide_eq_false (by omega)
 have d2 : decide ((2 : Int) < (i : Int)) = false := decide_eq_false (by omega)
 have d3 : decide (2 < i) = false := decide_eq_false (by omega)
 have HRO := Lib.hid hur
 clear hf hfe hnd hrs hst hnb hub hrf ht hsr hfew hrw
 have hi3i : (i : Int) < 3 := by omega
 have d4 : decide ((m : Int) < 0) = false := decide_eq_false (by omega)
 have d5 : decide ((f.now.length : Int) < (m : Int)) = false := decide_eq_false (by omega)
 have d6 : decide (f.now.length < m) = false := decide_eq_false (by omega)
 clear h hur hu2 hsz0 hnl hr65 hi3 hti hm
 obtain ⟨DX, hDX⟩ : ∃ DX, doD d i f (.cut m) = DX := ⟨_, rfl⟩
 obtain ⟨EX, hEX⟩ : ∃ EX, doE d i f (.cut m) = EX := ⟨_, rfl⟩
 rw [hDX, hEX]
 have HDX := Lib.hid hDX
 have HEX := Lib.hid hEX
 clear hDX hEX hs
 go_enter Tryz.func48, Tryz.ntmps48
 go_upto_region 1 with fail
 generalize ((w.alloc (.cells (rdA ts d) 65)).alloc (.cells #[.bool true, .int .i64 (m : Int), .slice none 0 0] 112)).alloc (.cells zD 65) = w2 at *
 have HC0 : Hid (∀ w', Below w2.heap.size w2 w' → w'.cell? ⟨w.heap.size + 1, 0, none⟩ = some (.bool true)) := fun w' hb => by rw [cell_of_row _ _ _ _ _ _ (Below.keepOld hb HSB.out)]; rfl
 have HC1 : Hid (∀ w', Below w2.heap.size w2 w' → w'.cell? ⟨w.heap.size + 1, 1, none⟩ = some (.int .i64 (m : Int))) := fun w' hb => by rw [cell_of_row _ _ _ _ _ _ (Below.keepOld hb HSB.out)]; rfl
 skip
 have HLF : Hid (∀ w', Below w2.heap.size w2 w' → w'.rangeAt w.heap.size (i * 2) (fA t f).toList) := fun w' hb => rd_range HQ.out.n3 HQ.out.m3 (Below.keepOld hb HQ.out.row) i HT.out HF.out
 have HRW : Hid (∀ w', Below w2.heap.size w2 w' → RFAt w' t f) := fun w' hb => HRF.out.below (HLOW.out.trans (hb.mono HLOW.out.size))
 refine wp_region_eager [(0, true), (1, true), (2, true), (3, true), (4, true), (5, true), (6, true), (7, true), (8, true), (9, true), (10, true), (11, true), (12, true), (13, true), (14, true), (15, true), (16, true), (17, true), (18, true), (19, true), (20, false), (21, true), (22, true), (23, true), (24, true), (25, true)] (by kernel_rfl) (by kernel_rfl) (eagerOpen rfl ?_)
 have hy0 : Below w2.heap.size w2 w2.drew := below_drew1 _ _
 repeat (first
  | ((with_reducible refine eagerLoadAt 27 ?_); refine wpEager_load (by rfl) 62 _ rfl w.heap.size (i * 2) rfl (fA t f) _ (fun w' hb => HLF.out w' hb) Tryz.underlying62 rfl (infoFi _ rfl) ?_; (try simp only [Act.put, zA, zB, zC]); (try refine eagerOpen rfl ?_))
  | ((first | (apply wpEager_take; (· rfl); (· (intro w' hb'; go_simp; try with_reducible rfl))) | refine wpEager_skip (by rfl) ?_ | refine wpEager_off (by rfl) ?_); (try simp only [Act.put, zA, zB, zC]); (try refine eagerOpen rfl ?_))
  | (apply wpEager_take; (· rfl); (· (intro w' hb'; have hk' := (fun w' hb => HC0.out w' hb) w' hb'; go_split_ands; go_simp; try with_reducible rfl)); (try simp only [Act.put, zA, zB, zC]); (try refine eagerOpen rfl ?_))
  | (apply wpEager_take; (· rfl); (· (intro w' hb'; have hk' := (fun w' hb => HC1.out w' hb) w' hb'; go_split_ands; go_simp; try with_reducible rfl)); (try simp only [Act.put, zA, zB, zC]); (try refine eagerOpen rfl ?_)))
 (refine wpEager_op (by rfl) (fun K hK => ?_); go_simp; (refine (rholds_any t f _ (HRW.out _ hy0) HNB.out).mono ?_; rintro e y1 ⟨ph, ch, rfl, ho, hb⟩; have hyl := hy0.trans hb; clear hb ho); refine Shut.out hK _ _ (by assumption) ?_; clear hK K; (try simp only [Act.put, zA, zB, zC]); (try refine eagerOpen rfl ?_))
 repeat (first
  | ((first | (apply wpEager_take; (· rfl); (· (intro w' hb'; go_simp; try with_reducible rfl))) | refine wpEager_skip (by rfl) ?_ | refine wpEager_off (by rfl) ?_); (try simp only [Act.put, zA, zB, zC]); (try refine eagerOpen rfl ?_)))
 refine eagerEnd ?_
 skip
 have hq1 := HQ.out.next hyl
 have hs1 := Below.keepOld hyl HSB.out
 have hz1 := Below.keepOld hyl HZX.out
 have hl1 := HLOW.out.trans (hyl.mono HLOW.out.size)
 clear HQ HSB HZX HLOW HC0 HC1 HSZ
 have HQ := Lib.hid hq1
 have HSB := Lib.hid hs1
 have HZX := Lib.hid hz1
 have HLOW := Lib.hid hl1
 clear hq1 hs1 hz1 hl1 hyl
 clear hy0 HLF HRW
 generalize y1 = w3 at *
 clear d4 d5 d6
 obtain ⟨_, _, hc8, _⟩ := HQ.out.cells
 cases hdn : d.down with
 | true =>
  obtain ⟨s1, s2⟩ := doE_down (i := i) (f := f) (s := .cut m) hdn
  rw [HDX.out] at s1
  rw [HEX.out] at s2
  clear HDX HEX
  subst DX EX
  rw [hdn] at hc8
  clear hdn
  go_upto_region 4 with fail
  clear hc8
  skip
  go_wp2_with (first
   | refine wpList_load_row rfl 65 _ rfl w.heap.size rfl 65 (rdA ts d) (0, 0) _ HQ.out.row Tryz.underlying65 rfl (infoRD _ (rdA_size HQ.out.n3 HQ.out.m3)) ?_
   | refine wpList_store_row rfl 65 _ _ rfl (w.heap.size + 2) (rdA ts d) rfl rfl 65 zD HZX.out (infoRD _ (rdA_size HQ.out.n3 HQ.out.m3)) (by rw [rdA_size HQ.out.n3 HQ.out.m3]; rfl) (rdA_one HQ.out.n3 HQ.out.m3) ?_)
  have HS := Lib.hid (setRow_heap _ _ _ (rdA ts d) _ _ HZX.out)
  refine bodyPost_ret (results_cell_tmp2 rfl _ _ _ _ _ _ _ rfl HS.out Tryz.underlying65 rfl (infoRD _ (rdA_size HQ.out.n3 HQ.out.m3))) rfl ?_
  exact ⟨ts, rfl, HQ.out.done HZX.out (by omega), below_setRow HLOW.out (by omega) _⟩
 | false =>
  rw [hdn] at hc8
  skip
  go_upto_region 6 with (first
   | refine wpList_load_row rfl 65 _ rfl w.heap.size rfl 65 (rdA ts d) (0, 0) _ HQ.out.row Tryz.underlying65 rfl (infoRD _ (rdA_size HQ.out.n3 HQ.out.m3)) ?_
   | refine wpList_store_row rfl 65 _ _ rfl w3.heap.size (rdA ts d) rfl rfl 65 zD (heap_alloc_last _ _) (infoRD _ (rdA_size HQ.out.n3 HQ.out.m3)) (by rw [rdA_size HQ.out.n3 HQ.out.m3]; rfl) (rdA_one HQ.out.n3 HQ.out.m3) ?_)
  try simp only [Act.put]
  clear hc8
  have hws : w.heap.size + 2 < w3.heap.size := (Array.getElem?_eq_some_iff.1 HZX.out).1
  obtain ⟨hq4, hb4⟩ := HQ.out.twin (by omega)
  have hq1 := HQ.out.next hb4
  have hs1 := Below.keepOld hb4 HSB.out
  have hz1 := Below.keepOld hb4 HZX.out
  have hl1 := HLOW.out.trans (hb4.mono HLOW.out.size)
  have hs4 : w3.heap.size < ((w3.alloc (.cells zD 65)).setRow w3.heap.size (rdA ts d)).heap.size := (Array.getElem?_eq_some_iff.1 hq4.row).1
  clear HQ HSB HZX HLOW
  generalize (w3.alloc (.cells zD 65)).setRow w3.heap.size (rdA ts d) = w4 at *
  have HQ1 := Lib.hid hq1
  have HQ2 := Lib.hid hq4
  have HSB := Lib.hid hs1
  have HZX := Lib.hid hz1
  have HLOW := Lib.hid hl1
  have HS4 := Lib.hid hb4
  clear hq4 hq1 hs1 hz1 hl1 hb4
  have hcf := (rdA_file HQ1.out.n3 HQ1.out.m3 i HT.out HF.out).2
  have hkc : Hid (∀ w', Below w3.heap.size w3 w' → w'.cell? ⟨w.heap.size, i * 2 + 1, none⟩ = some (.slice t.sp f.steps.length t.sc)) := fun w' hb => by
   have h3 : w3.heap[w.heap.size]? = some (.cells (rdA ts d) 65 (0, 0)) := by rw [← HS4.out.block _ (by omega)]; exact HQ1.out.row
   rw [cell_of_row _ _ _ _ _ _ (Below.keepOld hb h3)]; exact hcf
  have hkM : Hid (∀ w', Below w3.heap.size w3 w' → w'.rangeAt (w.heap.size + 1) 0 (#[.bool true, .int .i64 (m : Int), .slice none 0 0] : Array Value).toList) := fun w' hb => by
   have h3 : w3.heap[w.heap.size + 1]? = some (.cells (#[.bool true, .int .i64 (m : Int), .slice none 0 0] : Array Value) 112 (0, 0)) := by rw [← HS4.out.block _ (by omega)]; exact HSB.out
   exact row_rangeR (Below.keepOld hb h3)
  clear hcf
  have hi3j : (i : Int) < 3 := by omega
  have HON : Hid (∀ u ∈ rows.flatten, u.oneCell' = true) := one_rows HRS.out HST.out
  have HON2 : Hid (∀ u ∈ (#[.bool true, .int .i64 (m : Int), .slice none 0 0] : Array Value).toList, u.oneCell' = true) := by
   show ∀ u ∈ _, _
   intro u hu
   simp only [List.mem_cons, List.not_mem_nil, or_false] at hu
   rcases hu with rfl | rfl | rfl <;> rfl
  have HK1 : Hid (0 + f.steps.length ≤ 9223372036854775807 ∧ (0 + f.steps.length) * 40 ≤ 140737488355328) := ⟨by have := HFEW.out; omega, by have := HFEW.out; omega⟩
  have HK3 : Hid (f.steps.length + 1 ≤ 9223372036854775807 ∧ (f.steps.length + 1) * 40 ≤ 140737488355328) := ⟨by have := HFEW.out; omega, by have := HFEW.out; omega⟩
  have HK2 : Hid (0 + f.steps.length + 1 ≤ 9223372036854775807 ∧ (0 + f.steps.length + 1) * 40 ≤ 140737488355328) := ⟨by have := HFEW.out; omega, by have := HFEW.out; omega⟩
  refine wp_region_tree (Below w3.heap.size w3) (.take 0 (.take 2 (.take 3 (.take 4 (.take 5 (.take 6 (.take 8 (.take 11 (.two 1 9 (.two 7 9 (.one 9 (.one 10 (.take 12 (.take 13 (.one 14 .nil))))) (.one 7 (.one 10 (.take 12 (.take 13 (.one 14 .nil)))))) (.one 1 (.one 7 (.one 10 (.take 12 (.take 13 (.one 14 .nil)))))))))))))))  (by kernel_rfl) (by kernel_rfl) (HS4.out.trans ((below_drew1 _ _).mono HS4.out.size)) ?_
  have hyd : Below w4.heap.size w4 w4.drew := below_drew1 _ _
  have hzd : w3.heap.size < w4.drew.heap.size := hs4
  have hq1 := HQ1.out.next hyd
  have hq4 := HQ2.out.next hyd
  have hs1 := Below.keepOld hyd HSB.out
  have hz1 := Below.keepOld hyd HZX.out
  have hl1 := HLOW.out.trans (hyd.mono HLOW.out.size)
  have hsd := HS4.out.trans (hyd.mono HS4.out.size)
  clear HQ1 HQ2 HSB HZX HLOW HS4 hyd hs4
  generalize w4.drew = wd at *
  have HQ1 := Lib.hid hq1
  have HQ2 := Lib.hid hq4
  have HZX := Lib.hid hz1
  have HLOW := Lib.hid hl1
  have HSD := Lib.hid hsd
  clear hq1 hq4 hs1 hz1 hl1 hsd
  have hSL : Hid (∀ w', Below wd.heap.size wd w' → Sl w' t.sp f.steps.length t.sc 3 rows.flatten) := fun w' hb => HRS.out.sl.below (HLOW.out.trans (hb.mono HLOW.out.size))
  iterate 5 ((apply tree_take; (· rfl); (· rfl); (· (intro w' hb'; go_simp; try with_reducible rfl)); try simp only [Act.put, zA, zB, zC]))
  (apply tree_take; (· rfl); (· rfl); (· (intro w' hb'; have hk' := (hkc.out) w' hb'; go_simp; try with_reducible rfl)); try simp only [Act.put, zA, zB, zC])
  refine tree_load rfl (by rfl) 112 _ rfl (w.heap.size + 1) 0 rfl (#[.bool true, .int .i64 (m : Int), .slice none 0 0] : Array Value) _ (fun w' hb => hkM.out w' hb) Tryz.underlying112 rfl (infoSt _ rfl) ?_
  try simp only [Act.put, zA, zB, zC]
  iterate 1 ((apply tree_take; (· rfl); (· rfl); (· (intro w' hb'; go_simp; try with_reducible rfl)); try simp only [Act.put, zA, zB, zC]))
  have hb0 : Below wd.heap.size wd (wd.alloc (.cells #[] 112)) := Below.allocs _ _
  have hb5 : Below wd.heap.size wd (wd.alloc (.cells (#[.bool true, .int .i64 (m : Int), .slice none 0 0] : Array Value) 112)) := Below.allocs _ _
  refine tree_key (fun a0 a' Y => ∃ (v41 v47 v49 : Value) (p9 : Option Addr) (c9 : Nat), a' = ((((a0.put (some 41) v41).put (some 47) v47).put (some 49) v49).put (some 50) (.slice p9 (f.steps.length + 1) c9)) ∧ Below wd.heap.size wd Y ∧ Y.ownsRow wd.heap.size 112 3 (.slice p9 (f.steps.length + 1) c9) (f.steps.length + 1) (rows.flatten ++ (#[.bool true, .int .i64 (m : Int), .slice none 0 0] : Array Value).toList)) (.take 12 (.take 13 (.one 14 .nil))) ?_ ?_
  ·rintro a' wf ⟨v41, v47, v49, p9, c9, ha, hbf, o9⟩
   rw [ha]
   clear ha a'
   try simp only [Act.put, zA, zB, zC]
   skip
   iterate 2 ((apply tree_take; (· rfl); (· rfl); (· (intro w' hb'; go_simp; try with_reducible rfl)); try simp only [Act.put, zA, zB, zC]))
   have hcf := (rdA_file HQ2.out.n3 HQ2.out.m3 i HT.out HF.out).2
   have hq6 := HQ2.out.next hbf
   have hc14 : wf.cell? ⟨w3.heap.size, i * 2 + 1, none⟩ = some (.slice t.sp f.steps.length t.sc) := by rw [cell_of_row _ _ _ _ _ _ hq6.row]; exact hcf
   have hfz14 : wf.frozen? ⟨w3.heap.size, i * 2 + 1, none⟩ = false := frozen_of_row _ _ _ _ _ hq6.row
   have hsn : Rb w.heap.size wf ⟨t.kp, t.kc, p9, c9⟩ (f.take (St.cut m)) := Rb.snoc HRB.out HSR.out rfl HTK.out (by have := HFEW.out; omega) (HLOW.out.trans (hbf.mono HLOW.out.size)) o9
   obtain ⟨hq7, hk7⟩ := hq6.steps i hi HT.out HF.out p9 c9 (f.take (St.cut m)) rfl hsn HNT.out HFU.out
   rw [take_len] at hq7 hk7
   have hst7 : Below w3.heap.size w3 (wf.setCell ⟨w3.heap.size, i * 2 + 1, none⟩ (.slice p9 (f.steps.length + 1) c9)) := (HSD.out.trans (hbf.mono HSD.out.size)).trans (Turns.below ((Turns.refl (fun k => k = w3.heap.size) wf).setCell (p := ⟨w3.heap.size, i * 2 + 1, none⟩) (fun _ => rfl) _) (by have := hbf.size; omega) (fun _ e => by omega))
   refine tree_one rfl (by rfl) (fun K hK => ?_)
   go_simp
   refine Shut.out hK _ _ hst7 ?_
   clear hK K
   try simp only [Act.put, zA, zB, zC]
   refine tree_nil ?_
   have hno : ∀ k : Nat, k < w3.heap.size → (wf.setCell ⟨w3.heap.size, i * 2 + 1, none⟩ (.slice p9 (f.steps.length + 1) c9)).heap[k]? = wd.heap[k]? := fun k hk => by rw [hst7.block k hk, HSD.out.block k hk]
   have hq8 := (HQ1.out.next hbf).beside hk7 (by rw [hno _ (by omega)]; exact ((hbf.block _ (by omega)).symm))
   have hz8 : (wf.setCell ⟨w3.heap.size, i * 2 + 1, none⟩ (.slice p9 (f.steps.length + 1) c9)).heap[w.heap.size + 2]? = some (.cells zD 65 (0, 0)) := by rw [hno _ (by omega)]; exact HZX.out
   have hl8 := (HLOW.out.trans (hbf.mono HLOW.out.size)).trans (Turns.below ((Turns.refl (fun k => k = w3.heap.size) wf).setCell (p := ⟨w3.heap.size, i * 2 + 1, none⟩) (fun _ => rfl) (.slice p9 (f.steps.length + 1) c9)) (by have := hbf.size; omega) (fun _ e => by omega))
   have hw8 : w3.heap.size < (wf.setCell ⟨w3.heap.size, i * 2 + 1, none⟩ (.slice p9 (f.steps.length + 1) c9)).heap.size := (Array.getElem?_eq_some_iff.1 hq7.row).1
   clear hc14 hfz14 hcf hsn hq6 hno hst7 hk7 o9 HQ1 HQ2 HZX HLOW HSD hSL hkc hkM
   generalize wf.setCell ⟨w3.heap.size, i * 2 + 1, none⟩ (.slice p9 (f.steps.length + 1) c9) = w7 at *
   have HQ := Lib.hid hq8
   have HQ2 := Lib.hid hq7
   have HZX := Lib.hid hz8
   have HLOW := Lib.hid hl8
   clear hq8 hq7 hz8 hl8
   have hus := HUT.out
   obtain ⟨DN, hDN⟩ : ∃ DN, setF d i (f.take (St.cut m)) = DN := ⟨_, rfl⟩
   obtain ⟨TN, hTN⟩ : ∃ TN, ts.set i ⟨t.kp, t.kc, p9, c9⟩ = TN := ⟨_, rfl⟩
   have hq2 := HQ2.out
   rw [hDN, hTN] at hq2
   have hE1 := @doE_full d i f (St.cut m) hdn
   have hE2 := @doE_ok d i f (St.cut m) hdn
   rw [hDN] at hus hE2
   rw [← hus, HDX.out, HEX.out] at hE1 hE2
   generalize usedL d.fs - f.need + max f.need ((St.cut m).size f.now.length) = UN at hus
   have HE1 := Lib.hid hE1
   have HE2 := Lib.hid hE2
   have hgs : Hid (w.heap.size + 2 < w3.heap.size) := hws
   clear hE1 hE2 HQ2 HUT HTK HNT HFU HF HT HRF HRS HST HSR HRB HNB HFEW HRO HDX HEX hus hDN hTN HON HON2 HK1 HK2 HK3
   have HQ2 := Lib.hid hq2
   clear hq2
   obtain ⟨hc6, _, _, _⟩ := HQ.out.cells
   have HRM : Hid (∀ w', Below w7.heap.size w7 w' → w'.cell? ⟨w.heap.size, 6, none⟩ = some (.int .i64 (d.room : Int))) := fun w' hb => (HQ.out.next hb).cells.1
   have HLA : Hid (∀ w', Below w7.heap.size w7 w' → w'.rangeAt w3.heap.size 0 (rdA TN DN).toList) := fun w' hb => row_rangeR (Below.keepOld hb HQ2.out.row)
   clear hc6
   go_upto_region 7 with fail
   refine wp_region_eager [(0, true), (2, true), (3, true), (1, false), (4, true)] (by kernel_rfl) (by kernel_rfl) (eagerOpen rfl ?_)
   have hy0 : Below w7.heap.size w7 w7.drew := below_drew1 _ _
   repeat (first
    | ((with_reducible refine eagerLoadAt 8 ?_); refine wpEager_load (by rfl) 65 _ rfl w3.heap.size 0 rfl (rdA TN DN) _ (fun w' hb => HLA.out w' hb) Tryz.underlying65 rfl (infoRD _ (rdA_size HQ2.out.n3 HQ2.out.m3)) ?_; (try simp only [Act.put, zA, zB, zC]); (try refine eagerOpen rfl ?_))
    | ((first | (apply wpEager_take; (· rfl); (· (intro w' hb'; go_simp; try with_reducible rfl))) | refine wpEager_skip (by rfl) ?_ | refine wpEager_off (by rfl) ?_); (try simp only [Act.put, zA, zB, zC]); (try refine eagerOpen rfl ?_))
    | (apply wpEager_take; (· rfl); (· (intro w' hb'; have hk' := (fun w' hb => HRM.out w' hb) w' hb'; go_split_ands; go_simp; try with_reducible rfl)); (try simp only [Act.put, zA, zB, zC]); (try refine eagerOpen rfl ?_)))
   (refine wpEager_op (by rfl) (fun K hK => ?_); go_simp; (refine (rused_any TN DN _ (HQ2.out.next hy0).at).mono ?_; rintro e y1 ⟨rfl, hb⟩; have hy1 := hy0.trans hb; clear hb); refine Shut.out hK _ _ (by assumption) ?_; clear hK K; (try simp only [Act.put, zA, zB, zC]); (try refine eagerOpen rfl ?_))
   by_cases hr : d.room < usedL DN.fs
   ·obtain ⟨s1, s2⟩ := HE1.out hr
    subst DX EX
    have hd1 : decide ((d.room : Int) < (usedL DN.fs : Int)) = true := decide_eq_true (by omega)
    have hd2 : decide (d.room < usedL DN.fs) = true := decide_eq_true hr
    repeat (first
     | ((first | (apply wpEager_take; (· rfl); (· (intro w' hb'; go_simp; try with_reducible rfl))) | refine wpEager_skip (by rfl) ?_ | refine wpEager_off (by rfl) ?_); (try simp only [Act.put, zA, zB, zC]); (try refine eagerOpen rfl ?_)))
    refine eagerEnd ?_
    have hq1 := HQ.out.next hy1
    have hz1 := Below.keepOld hy1 HZX.out
    have hl1 := HLOW.out.trans (hy1.mono HLOW.out.size)
    clear HQ HQ2 HZX HLOW HRM HLA hy0 hy1 HE1 HE2
    have HQ := Lib.hid hq1
    have HZX := Lib.hid hz1
    have HLOW := Lib.hid hl1
    clear hq1 hz1 hl1
    go_upto_region 8 with fail
    skip
    go_wp2_with (first
     | refine wpList_load_row rfl 65 _ rfl w.heap.size rfl 65 (rdA ts d) (0, 0) _ HQ.out.row Tryz.underlying65 rfl (infoRD _ (rdA_size HQ.out.n3 HQ.out.m3)) ?_
     | refine wpList_store_row rfl 65 _ _ rfl (w.heap.size + 2) (rdA ts d) rfl rfl 65 zD HZX.out (infoRD _ (rdA_size HQ.out.n3 HQ.out.m3)) (by rw [rdA_size HQ.out.n3 HQ.out.m3]; rfl) (rdA_one HQ.out.n3 HQ.out.m3) ?_)
    have HS := Lib.hid (setRow_heap _ _ _ (rdA ts d) _ _ HZX.out)
    refine bodyPost_ret (results_cell_tmp2 rfl _ _ _ _ _ _ _ rfl HS.out Tryz.underlying65 rfl (infoRD _ (rdA_size HQ.out.n3 HQ.out.m3))) rfl ?_
    exact ⟨ts, rfl, HQ.out.done HZX.out (by omega), below_setRow HLOW.out (by omega) _⟩
   ·have HSS := Lib.hid (HE2.out hr)
    have hd1 : decide ((d.room : Int) < (usedL DN.fs : Int)) = false := decide_eq_false (by omega)
    have hd2 : decide (d.room < usedL DN.fs) = false := decide_eq_false hr
    repeat (first
     | ((first | (apply wpEager_take; (· rfl); (· (intro w' hb'; go_simp; try with_reducible rfl))) | refine wpEager_skip (by rfl) ?_ | refine wpEager_off (by rfl) ?_); (try simp only [Act.put, zA, zB, zC]); (try refine eagerOpen rfl ?_)))
    refine eagerEnd ?_
    have hq1 := HQ2.out.next hy1
    have hz1 := Below.keepOld hy1 HZX.out
    have hl1 := HLOW.out.trans (hy1.mono HLOW.out.size)
    clear HQ HQ2 HZX HLOW HRM HLA hy0 hy1 HE1 HE2 hr
    have HQ2 := Lib.hid hq1
    have HZX := Lib.hid hz1
    have HLOW := Lib.hid hl1
    clear hq1 hz1 hl1
    have HBU := Lib.hid (rburn_any TN DN y1 HQ2.out.n3 HQ2.out.m3 HQ2.out.fuse1)
    go_upto_region 9 with fail
    go_wp2_with (refine wpList_load_row rfl 65 _ rfl w3.heap.size rfl 65 (rdA TN DN) (0, 0) _ HQ2.out.row Tryz.underlying65 rfl (infoRD _ (rdA_size HQ2.out.n3 HQ2.out.m3)) ?_)
    refine HBU.out.mono ?_
    rintro e w8 ⟨rfl, hb8⟩
    have hq3 := HQ2.out.next hb8
    obtain ⟨hq4, hk4⟩ := hq3.burn
    obtain ⟨s1, s2⟩ := HSS.out
    rw [← s1] at s2 hq4 hk4 ⊢
    have HS2 := Lib.hid s2
    clear s1 s2 HSS
    have HQ3 := Lib.hid hq3
    have HD3 : Hid (DX.fs.length = 3) := hq4.m3
    have hz4 : (w8.setRow w3.heap.size (rdA TN DX)).heap[w.heap.size + 2]? = some (.cells zD 65 (0, 0)) := by rw [setRow_other _ _ _ _ (by omega)]; exact Below.keepOld hb8 HZX.out
    have HZ5 := Lib.hid hz4
    have HL5 : Hid (Below w.heap.size w (w8.setRow w3.heap.size (rdA TN DX))) := below_setRow (HLOW.out.trans (hb8.mono HLOW.out.size)) (by omega) _
    have HQ := Lib.hid hq4
    clear HQ2 HZX HLOW HBU hb8 hq3 hq4 hk4 hz4
    go_upto_region 10 with (refine wpList_store_row rfl 65 _ _ rfl w3.heap.size (rdA TN DX) rfl rfl 65 (rdA TN DN) HQ3.out.row (infoRD _ (rdA_size HQ3.out.n3 HD3.out)) (by rw [rdA_size HQ3.out.n3 HD3.out, rdA_size HQ3.out.n3 HQ3.out.m3]) (rdA_one HQ3.out.n3 HD3.out) ?_)
    try simp only [Act.put]
    clear HQ3
    generalize w8.setRow w3.heap.size (rdA TN DX) = w9 at *
    have HZX := HZ5
    have HLOW := HL5
    clear HZ5 HL5
    have HAN : Hid ((if DX.down = true then (18 : Int) else 0) = EX) := HS2.out.symm
    clear HS2 hd1 hd2
    skip
    have HLA : Hid (∀ w', Below w9.heap.size w9 w' → w'.rangeAt w3.heap.size 0 (rdA TN DX).toList) := fun w' hb j v hv => by rw [cell_of_row _ _ _ _ _ _ (Below.keepOld hb HQ.out.row), ← Array.getElem?_toList, Nat.zero_add]; exact hv
    go_upto_region 10 with fail
    refine wp_region_eager_t (Below w9.heap.size w9) [0, 1] [(0, true), (1, true), (2, false)] [3, 4] (by kernel_rfl) (by kernel_rfl) ?_ (eagerTOpen rfl ?_)
    ·exact below_drew1 _ _
    have hy0 : Below w9.heap.size w9 w9.drew := below_drew1 _ _
    repeat (first
     | ((with_reducible refine eagerTLoadAt 8 ?_); refine wpEagerT_load (by rfl) 65 _ rfl w3.heap.size 0 rfl (rdA TN DX) _ (fun w' hb => HLA.out w' hb) Tryz.underlying65 rfl (infoRD _ (rdA_size HQ.out.n3 HQ.out.m3)) ?_; (try simp only [Act.put, zA, zB, zC]); (try refine eagerTOpen rfl ?_))
     | ((first | (apply wpEagerT_take; (· rfl); (· (intro w' hb'; go_simp; try with_reducible rfl))) | refine wpEagerT_skip (by rfl) ?_); (try simp only [Act.put, zA, zB, zC]); (try refine eagerTOpen rfl ?_)))
    (refine wpEagerT_op (by rfl) (fun K hK => ?_); go_simp; (refine (ranswer2 TN DX EX HAN.out _ HQ.out.n3 HQ.out.m3).mono ?_; rintro e y1 ⟨rfl, hb⟩; have hy1 := hy0.trans hb; clear hb); refine Shut.out hK _ _ (by assumption) ?_; clear hK K; (try simp only [Act.put, zA, zB, zC]); (try refine eagerTOpen rfl ?_))
    refine eagerTEnd (tail2 rfl rfl ?_)
    have hq1 := HQ.out.next hy1
    have hz1 := Below.keepOld hy1 HZX.out
    have hl1 := HLOW.out.trans (hy1.mono HLOW.out.size)
    clear HQ HZX HLOW HLA hy0 hy1
    have HQ := Lib.hid hq1
    have HZX := Lib.hid hz1
    have HLOW := Lib.hid hl1
    clear hq1 hz1 hl1
    go_wp2_with (refine wpList_store_row rfl 65 _ _ rfl (w.heap.size + 2) (rdA TN DX) rfl rfl 65 zD HZX.out (infoRD _ (rdA_size HQ.out.n3 HQ.out.m3)) (by rw [rdA_size HQ.out.n3 HQ.out.m3]; rfl) (rdA_one HQ.out.n3 HQ.out.m3) ?_)
    refine noPanic_end ?_
    go_wp2_with fail
    have HS := Lib.hid (setRow_heap _ _ _ (rdA TN DX) _ _ HZX.out)
    refine bodyPost_ret (results_cell_tmp2 rfl _ _ _ _ _ _ _ rfl HS.out Tryz.underlying65 rfl (infoRD _ (rdA_size HQ.out.n3 HQ.out.m3))) rfl ?_
    exact ⟨TN, rfl, HQ.out.done HZX.out (by omega), below_setRow HLOW.out (by omega) _⟩
  intro KEY
  refine tree_two ?_ (?_)
  ·refine tree_one rfl (by rfl) (fun K hK => ?_)
   go_simp
   refine Shut.out hK _ _ (HSD.out.trans (hb0.mono HSD.out.size)) ?_
   clear hK K
   try simp only [Act.put, zA, zB, zC]
   have o1 : (wd.alloc (.cells #[] 112)).ownsRow wd.heap.size 112 3 (.slice (some ⟨wd.heap.size, 0, none⟩) 0 0) 0 [] := own_made0 wd _ _ _ _ rfl (Nat.le_refl _)
   have hz1 : wd.heap.size ≤ (wd.alloc (.cells #[] 112)).heap.size := hb0.size
   generalize wd.alloc (.cells #[] 112) = wa at *
   refine tree_two ?_ ?_
   ·refine tree_one rfl (by rfl) (fun K hK => oper_of_list rfl ?_)
    refine wpList_append_nx rfl _ _ 60 rfl (base := wd.heap.size) Tryz.underlying60 infoSteps (by rfl) (by omega) rfl o1 rfl (hSL.out _ hb0) HON.out HK1.out hz1 ?_
    intro p2 c2 w5 o2 hg2 hnx2 _
    rw [Nat.zero_add f.steps.length] at *
    have hb2 : Below wd.heap.size wd w5 := hb0.grown hg2 hz1 (fun i hi => (o1.lt i hi).1)
    refine only_end (Shut.out hK _ _ (HSD.out.trans (hb2.mono HSD.out.size)) ?_)
    clear hK K
    try simp only [Act.put, zA, zB, zC]
    have hz2 : wd.heap.size ≤ w5.heap.size := hb2.size
    refine tree_one rfl (by rfl) (fun K hK => oper_of_list rfl ?_)
    refine wpList_buildOne rfl 60 112 _ rfl (#[.bool true, .int .i64 (m : Int), .slice none 0 0] : Array Value) rfl 3 Tryz.underlying60 (by kernel_rfl) (by omega) (by omega) rfl ?_
    have hb6 := hb2.alloc hz2 (.cells (#[.bool true, .int .i64 (m : Int), .slice none 0 0] : Array Value) 112)
    have o6 := own_below_alloc o2 (.cells (#[.bool true, .int .i64 (m : Int), .slice none 0 0] : Array Value) 112)
    have r6 := heap_alloc_last w5 (.cells (#[.bool true, .int .i64 (m : Int), .slice none 0 0] : Array Value) 112)
    have hz6 : wd.heap.size ≤ (w5.alloc (.cells (#[.bool true, .int .i64 (m : Int), .slice none 0 0] : Array Value) 112)).heap.size := hb6.size
    refine only_end (Shut.out hK _ _ (HSD.out.trans (hb6.mono HSD.out.size)) ?_)
    clear hK K
    try simp only [Act.put, zA, zB, zC]
    generalize w5.alloc (.cells (#[.bool true, .int .i64 (m : Int), .slice none 0 0] : Array Value) 112) = w6 at *
    refine tree_one rfl (by rfl) (fun K hK => oper_of_list rfl ?_)
    refine wpList_append_nx rfl _ _ 60 rfl (base := wd.heap.size) Tryz.underlying60 infoSteps (by rfl) (by omega) rfl o6 rfl (row_sl r6 3 rfl) HON2.out HK3.out hz6 ?_
    intro p9 c9 wf o9 hg9 hnx9 _
    have hbf : Below wd.heap.size wd wf := hb6.grown hg9 hz6 (fun i hi => (o6.lt i hi).1)
    refine only_end (Shut.out hK _ _ (HSD.out.trans (hbf.mono HSD.out.size)) ?_)
    clear hK K
    try simp only [Act.put, zA, zB, zC]
    refine KEY _ _ ?_
    try simp only [Act.put, zA, zB, zC]
    exact ⟨_, _, _, p9, c9, rfl, hbf, o9⟩
   ·refine tree_one rfl (by rfl) (fun K hK => oper_of_list rfl ?_)
    refine wpList_buildOne rfl 60 112 _ rfl (#[.bool true, .int .i64 (m : Int), .slice none 0 0] : Array Value) rfl 3 Tryz.underlying60 (by kernel_rfl) (by omega) (by omega) rfl ?_
    have hb2 := hb0.alloc hz1 (.cells (#[.bool true, .int .i64 (m : Int), .slice none 0 0] : Array Value) 112)
    have o2 := own_below_alloc o1 (.cells (#[.bool true, .int .i64 (m : Int), .slice none 0 0] : Array Value) 112)
    have r2 := heap_alloc_last wa (.cells (#[.bool true, .int .i64 (m : Int), .slice none 0 0] : Array Value) 112)
    have hz2 : wd.heap.size ≤ (wa.alloc (.cells (#[.bool true, .int .i64 (m : Int), .slice none 0 0] : Array Value) 112)).heap.size := hb2.size
    have hne : wa.heap.size ≠ wd.heap.size := fun e => by have := (o1.lt wd.heap.size rfl).2; omega
    refine only_end (Shut.out hK _ _ (HSD.out.trans (hb2.mono HSD.out.size)) ?_)
    clear hK K
    try simp only [Act.put, zA, zB, zC]
    generalize wa.alloc (.cells (#[.bool true, .int .i64 (m : Int), .slice none 0 0] : Array Value) 112) = wc at *
    refine tree_one rfl (by rfl) (fun K hK => oper_of_list rfl ?_)
    refine wpList_append_nx rfl _ _ 60 rfl (base := wd.heap.size) Tryz.underlying60 infoSteps (by rfl) (by omega) rfl o2 rfl (hSL.out _ hb2) HON.out HK1.out hz2 ?_
    intro p2 c2 w6 o6 hg2 hnx2 _
    rw [Nat.zero_add f.steps.length] at *
    rw [List.nil_append] at o6
    have hb6 : Below wd.heap.size wd w6 := hb2.grown hg2 hz2 (fun i hi => (o2.lt i hi).1)
    have r6 : w6.heap[wa.heap.size]? = some (.cells (#[.bool true, .int .i64 (m : Int), .slice none 0 0] : Array Value) 112 (0, 0)) := by
     rw [hg2.block _ (Array.getElem?_eq_some_iff.1 r2).1 (fun e => hne (by injection e))]
     exact r2
    refine only_end (Shut.out hK _ _ (HSD.out.trans (hb6.mono HSD.out.size)) ?_)
    clear hK K
    try simp only [Act.put, zA, zB, zC]
    have hz6 : wd.heap.size ≤ w6.heap.size := hb6.size
    refine tree_one rfl (by rfl) (fun K hK => oper_of_list rfl ?_)
    refine wpList_append_nx rfl _ _ 60 rfl (base := wd.heap.size) Tryz.underlying60 infoSteps (by rfl) (by omega) rfl o6 rfl (row_sl r6 3 rfl) HON2.out HK3.out hz6 ?_
    intro p9 c9 wf o9 hg9 hnx9 _
    have hbf : Below wd.heap.size wd wf := hb6.grown hg9 hz6 (fun i hi => (o6.lt i hi).1)
    refine only_end (Shut.out hK _ _ (HSD.out.trans (hbf.mono HSD.out.size)) ?_)
    clear hK K
    try simp only [Act.put, zA, zB, zC]
    refine KEY _ _ ?_
    try simp only [Act.put, zA, zB, zC]
    exact ⟨_, _, _, p9, c9, rfl, hbf, o9⟩
  ·refine tree_one rfl (by rfl) (fun K hK => oper_of_list rfl ?_)
   refine wpList_buildOne rfl 60 112 _ rfl (#[.bool true, .int .i64 (m : Int), .slice none 0 0] : Array Value) rfl 3 Tryz.underlying60 (by kernel_rfl) (by omega) (by omega) rfl ?_
   have r1 := heap_alloc_last wd (.cells (#[.bool true, .int .i64 (m : Int), .slice none 0 0] : Array Value) 112)
   have hz1 : wd.heap.size ≤ (wd.alloc (.cells (#[.bool true, .int .i64 (m : Int), .slice none 0 0] : Array Value) 112)).heap.size := hb5.size
   refine only_end (Shut.out hK _ _ (HSD.out.trans (hb5.mono HSD.out.size)) ?_)
   clear hK K
   try simp only [Act.put, zA, zB, zC]
   generalize wd.alloc (.cells (#[.bool true, .int .i64 (m : Int), .slice none 0 0] : Array Value) 112) = wa at *
   refine tree_one rfl (by rfl) (fun K hK => ?_)
   go_simp
   have hb2 := hb5.alloc hz1 (.cells #[] 112)
   refine Shut.out hK _ _ (HSD.out.trans (hb2.mono HSD.out.size)) ?_
   clear hK K
   try simp only [Act.put, zA, zB, zC]
   have o2 : (wa.alloc (.cells #[] 112)).ownsRow wd.heap.size 112 3 (.slice (some ⟨wa.heap.size, 0, none⟩) 0 0) 0 [] := own_made0 wa _ _ _ _ rfl hz1
   have r2 := block_old (.cells #[] 112) r1
   have hne : wd.heap.size ≠ wa.heap.size := fun e => by have := (Array.getElem?_eq_some_iff.1 r1).1; omega
   have hz2 : wd.heap.size ≤ (wa.alloc (.cells #[] 112)).heap.size := hb2.size
   generalize wa.alloc (.cells #[] 112) = wc at *
   refine tree_one rfl (by rfl) (fun K hK => oper_of_list rfl ?_)
   refine wpList_append_nx rfl _ _ 60 rfl (base := wd.heap.size) Tryz.underlying60 infoSteps (by rfl) (by omega) rfl o2 rfl (hSL.out _ hb2) HON.out HK1.out hz2 ?_
   intro p2 c2 w6 o6 hg2 hnx2 _
   rw [Nat.zero_add f.steps.length] at *
   rw [List.nil_append] at o6
   have hb6 : Below wd.heap.size wd w6 := hb2.grown hg2 hz2 (fun i hi => (o2.lt i hi).1)
   have r6 : w6.heap[wd.heap.size]? = some (.cells (#[.bool true, .int .i64 (m : Int), .slice none 0 0] : Array Value) 112 (0, 0)) := by
    rw [hg2.block _ (Array.getElem?_eq_some_iff.1 r2).1 (fun e => hne (by injection e))]
    exact r2
   refine only_end (Shut.out hK _ _ (HSD.out.trans (hb6.mono HSD.out.size)) ?_)
   clear hK K
   try simp only [Act.put, zA, zB, zC]
   have hz6 : wd.heap.size ≤ w6.heap.size := hb6.size
   refine tree_one rfl (by rfl) (fun K hK => oper_of_list rfl ?_)
   refine wpList_append_nx rfl _ _ 60 rfl (base := wd.heap.size) Tryz.underlying60 infoSteps (by rfl) (by omega) rfl o6 rfl (row_sl r6 3 rfl) HON2.out HK3.out hz6 ?_
   intro p9 c9 wf o9 hg9 hnx9 _
   have hbf : Below wd.heap.size wd wf := hb6.grown hg9 hz6 (fun i hi => (o6.lt i hi).1)
   refine only_end (Shut.out hK _ _ (HSD.out.trans (hbf.mono HSD.out.size)) ?_)
   clear hK K
   try simp only [Act.put, zA, zB, zC]
   refine KEY _ _ ?_
   try simp only [Act.put, zA, zB, zC]
   exact ⟨_, _, _, p9, c9, rfl, hbf, o9⟩
end Go.Proofs.YtnejjfglkindjaaGreatDoor.Rk
namespace Go.Proofs.YtnejjfglkindjaaGreatDoor.Rk
open Go.RowKit Go.Mir Go.Mir.Parts Dk
set_option maxRecDepth 100000 in
set_option maxHeartbeats 1600000 in
theorem rcut_of (ts : List RF) (d d' : DD) (ev : Int) (i z : Int) (w : World) (h1 : ts.length = 3) (h2 : d.fs.length = 3)
  (HD : ∀ w1, Below w.heap.size w w1 → Calls Tryz.prog 48 #[.agg (rdA ts d), .int .i64 i, .agg #[.bool true, .int .i64 z, .slice none 0 0]] w1 (ROut d' ev w1)) :
  Calls Tryz.prog 103 #[.agg (rdA ts d), .int .i64 i, .int .i64 z] w (ROut d' ev w) := by
 have hz := zeroD
 obtain ⟨q1, q2, q3, q4⟩ := boxes w ts d
 have HROW := Lib.hid q1
 have HZX := Lib.hid q2
 have HLOW := Lib.hid q4
 clear q1 q2 q3 q4
 have HDO := Lib.hid HD
 have H1 := Lib.hid h1
 have H2 := Lib.hid h2
 clear HD h1 h2
 go_enter Tryz.func103, Tryz.ntmps103
 go_upto_region 1 with fail
 generalize (w.alloc (.cells (rdA ts d) 65)).alloc (.cells zD 65) = w2 at *
 go_wp2_with (refine wpList_load_row rfl 65 _ rfl w.heap.size rfl 65 (rdA ts d) (0, 0) _ HROW.out Tryz.underlying65 rfl (infoRD _ (rdA_size H1.out H2.out)) ?_)
 refine (HDO.out _ HLOW.out).mono ?_
 rintro e y1 ⟨TS, rfl, hrd, hy1⟩
 have HQ := Lib.hid hrd
 have hz1 := Below.keepOld hy1 HZX.out
 have hl1 := HLOW.out.trans (hy1.mono HLOW.out.size)
 clear HZX HLOW hy1 HDO hrd HROW
 have HZX := Lib.hid hz1
 have HLOW := Lib.hid hl1
 clear hz1 hl1
 go_wp2_with (refine wpList_store_row rfl 65 _ _ rfl (w.heap.size + 1) (rdA TS d') rfl rfl 65 zD HZX.out (infoRD _ (rdA_size HQ.out.n3 HQ.out.m3)) (by rw [rdA_size HQ.out.n3 HQ.out.m3]; rfl) (rdA_one HQ.out.n3 HQ.out.m3) ?_)
 have HS := Lib.hid (setRow_heap _ _ _ (rdA TS d') _ _ HZX.out)
 refine bodyPost_ret (results_cell_tmp2 rfl _ _ _ _ _ _ _ rfl HS.out Tryz.underlying65 rfl (infoRD _ (rdA_size HQ.out.n3 HQ.out.m3))) rfl ?_
 exact ⟨TS, rfl, HQ.out.step (KR.of_turn (turns_setRow _ _ _) HZX.out), below_setRow HLOW.out (by omega) _⟩
set_option maxRecDepth 100000 in
set_option maxHeartbeats 1600000 in
theorem rappend_of (ts : List RF) (d d' : DD) (ev : Int) (i : Int) (p : Option Addr) (B : List UInt8) (c : Nat) (w : World) (h1 : ts.length = 3) (h2 : d.fs.length = 3) (hb : Bs w p B.length c B) (hl : B.length ≤ 140737488355327)
  (HD : ∀ w1 q k, Below w.heap.size w w1 → (∀ y, KR 0 w1 y → Bs y q B.length k B) → Calls Tryz.prog 48 #[.agg (rdA ts d), .int .i64 i, .agg #[.bool false, .int .i64 0, .slice q B.length k]] w1 (ROut d' ev w1)) :
  Calls Tryz.prog 25 #[.agg (rdA ts d), .int .i64 i, .slice p B.length c] w (ROut d' ev w) := by
 have hz := zeroD
 obtain ⟨q1, q2, q3, q4⟩ := boxes w ts d
 have HROW := Lib.hid q1
 have HZX := Lib.hid q2
 have HLOW := Lib.hid q4
 clear q1 q2 q3 q4
 have HDO := Lib.hid HD
 have H1 := Lib.hid h1
 have H2 := Lib.hid h2
 have HBS := Lib.hid (hb.below HLOW.out)
 clear HD h1 h2 hb
 go_enter Tryz.func25, Tryz.ntmps25
 go_upto_region 1 with fail
 generalize (w.alloc (.cells (rdA ts d) 65)).alloc (.cells zD 65) = w2 at *
 have HLA : Hid (∀ w', Below w2.heap.size w2 w' → w'.rangeAt w.heap.size 0 (rdA ts d).toList) := fun w' hb => row_rangeR (Below.keepOld hb HROW.out)
 refine wp_region_eager_t (Below w2.heap.size w2) [0, 1, 3, 5, 7, 8] [(0, true), (1, true), (3, true), (2, false), (4, false), (5, true), (6, false), (7, true), (8, true)] [9, 10] (by kernel_rfl) (by kernel_rfl) ?_ (eagerTOpen rfl ?_)
 ·exact below_drew1 _ _
 have hy0 : Below w2.heap.size w2 w2.drew := below_drew1 _ _
 repeat (first
  | ((with_reducible refine eagerTLoadAt 3 ?_); refine wpEagerT_load (by rfl) 65 _ rfl w.heap.size 0 rfl (rdA ts d) _ (fun w' hb => HLA.out w' hb) Tryz.underlying65 rfl (infoRD _ (rdA_size H1.out H2.out)) ?_; (try simp only [Act.put, zA, zB, zC]); (try refine eagerTOpen rfl ?_))
  | ((first | (apply wpEagerT_take; (· rfl); (· (intro w' hb'; go_simp; try with_reducible rfl))) | refine wpEagerT_skip (by rfl) ?_); (try simp only [Act.put, zA, zB, zC]); (try refine eagerTOpen rfl ?_)))
 have hs0 : w2.heap.size ≤ w2.drew.heap.size := hy0.size
 generalize w2.drew = wd at *
 have hb0 := hy0.alloc hs0 (.cells #[] 5)
 have o1 : (wd.alloc (.cells #[] 5)).ownsRow w2.heap.size 5 1 (.slice (some ⟨wd.heap.size, 0, none⟩) 0 0) 0 [] := own_made0 wd _ _ _ _ rfl hs0
 (refine wpEagerT_op (by rfl) (fun K hK => ?_); go_simp; (skip); refine Shut.out hK _ _ (by assumption) ?_; clear hK K; (try simp only [Act.put, zA, zB, zC]); (try refine eagerTOpen rfl ?_))
 have hs1 : w2.heap.size ≤ (wd.alloc (.cells #[] 5)).heap.size := hb0.size
 generalize wd.alloc (.cells #[] 5) = wa at *
 (refine wpEagerT_op (by rfl) (fun K hK => oper_of_list rfl ?_))
 refine wpList_append_nx rfl _ _ 22 rfl (base := w2.heap.size) Tryz.underlying22 info8b rfl (by omega) rfl o1 rfl (HBS.out.below hb0) (bytesV_one _) ⟨by omega, by omega⟩ hs1 ?_
 intro p2 c2 w5 o2 hg2 _ _
 rw [Nat.zero_add] at *
 rw [List.nil_append] at o2
 have hb2 : Below w2.heap.size w2 w5 := hb0.grown hg2 hs1 (fun i hi => (o1.lt i hi).1)
 refine only_end (Shut.out hK _ _ hb2 ?_)
 clear hK K
 (try simp only [Act.put, zA, zB, zC])
 (try refine eagerTOpen rfl ?_)
 have HO2 := Lib.hid o2
 clear o1 o2 hg2
 repeat ((first | (apply wpEagerT_take; (· rfl); (· (intro w' hb'; go_simp; try with_reducible rfl))) | refine wpEagerT_skip (by rfl) ?_); (try simp only [Act.put, zA, zB, zC]); (try refine eagerTOpen rfl ?_))
 (refine wpEagerT_op (by rfl) (fun K hK => ?_); go_simp; (refine (HDO.out _ p2 c2 (HLOW.out.trans (hb2.mono HLOW.out.size)) (fun y hy => Cut.own_bs (hy.own HO2.out (fun h => h.1 rfl)))).mono ?_; rintro e y1 ⟨TS, rfl, hrd, hb⟩; have hy1 := hb2.trans (hb.mono hb2.size); clear hb); refine Shut.out hK _ _ (by assumption) ?_; clear hK K; (try simp only [Act.put, zA, zB, zC]); (try refine eagerTOpen rfl ?_))
 have HQ := Lib.hid hrd
 clear hrd
 repeat ((first | (apply wpEagerT_take; (· rfl); (· (intro w' hb'; go_simp; try with_reducible rfl))) | refine wpEagerT_skip (by rfl) ?_); (try simp only [Act.put, zA, zB, zC]); (try refine eagerTOpen rfl ?_))
 refine eagerTEnd (tail2 rfl rfl ?_)
 have hz1 := Below.keepOld hy1 HZX.out
 have hl1 := HLOW.out.trans (hy1.mono HLOW.out.size)
 clear HZX HLOW HLA hy0 hy1 HDO hb0 hb2 HO2 HBS
 have HZX := Lib.hid hz1
 have HLOW := Lib.hid hl1
 clear hz1 hl1
 skip
 go_wp2_with (refine wpList_store_row rfl 65 _ _ rfl (w.heap.size + 1) (rdA TS d') rfl rfl 65 zD HZX.out (infoRD _ (rdA_size HQ.out.n3 HQ.out.m3)) (by rw [rdA_size HQ.out.n3 HQ.out.m3]; rfl) (rdA_one HQ.out.n3 HQ.out.m3) ?_)
 refine noPanic_end ?_
 go_wp2_with fail
 have HS := Lib.hid (setRow_heap _ _ _ (rdA TS d') _ _ HZX.out)
 refine bodyPost_ret (results_cell_tmp2 rfl _ _ _ _ _ _ _ rfl HS.out Tryz.underlying65 rfl (infoRD _ (rdA_size HQ.out.n3 HQ.out.m3))) rfl ?_
 exact ⟨TS, rfl, HQ.out.step (KR.of_turn (turns_setRow _ _ _) HZX.out), below_setRow HLOW.out (by omega) _⟩
end Go.Proofs.YtnejjfglkindjaaGreatDoor.Rk
namespace Go.Proofs.YtnejjfglkindjaaGreatDoor.Rk
open Go.RowKit Go.Mir Go.Mir.Parts Dk
end Go.Proofs.YtnejjfglkindjaaGreatDoor.Rk
namespace Go.Proofs.YtnejjfglkindjaaGreatDoor.Rk
open Go.RowKit Go.Mir Go.Mir.Parts Dk Rol
open Frm (frame scan)
open Cut (Ls LsO)
theorem RDB.put {x : World} {ts : List RF} {d : DD} {g : Nat} {M A : Array Value} (h : RDB x ts d) (hz : x.heap[g]? = some (.cells M 65 (0, 0))) : RDB (x.setRow g A) ts d := h.step (KR.of_turn (turns_setRow _ _ _) hz)
theorem RDB.fd {x : World} {ts : List RF} {d : DD} (h : RDB x ts d) {i : Nat} (hi : i < 3) : d.fs[i]? = some (fD d i) := by
 have hl : i < d.fs.length := by rw [h.m3]; exact hi
 rw [List.getElem?_eq_getElem hl, fD_eq hl]
theorem rput_in (ts : List RF) (d : DD) (i : Nat) (hi : i < 3) (p : Option Addr) (B : List UInt8) (c : Nat) (w : World) (h : RDB w ts d) (hur : usedL d.fs ≤ d.room) (hb : Bs w p B.length c B) (hu : B.length ≤ 60000) (hfew : (fD d i).steps.length + 1 ≤ 2199023255552) :
  Calls Tryz.prog 25 #[.agg (rdA ts d), .int .i64 (i : Int), .slice p B.length c] w (ROut (doD d i (fD d i) (.put B)) (doE d i (fD d i) (.put B)) w) :=
 rappend_of ts d _ _ i p B c w h.n3 h.m3 hb (by omega) (fun w1 q k hb1 hq => rdo_put ts d i hi (fD d i) (h.fd hi) B q k w1 (h.below hb1) hur hq hu hfew)
theorem rcut_in (ts : List RF) (d : DD) (i : Nat) (hi : i < 3) (m : Nat) (hm : m ≤ (fD d i).now.length) (w : World) (h : RDB w ts d) (hur : usedL d.fs ≤ d.room) (hfew : (fD d i).steps.length + 1 ≤ 2199023255552) :
  Calls Tryz.prog 103 #[.agg (rdA ts d), .int .i64 (i : Int), .int .i64 (m : Int)] w (ROut (doD d i (fD d i) (.cut m)) (doE d i (fD d i) (.cut m)) w) :=
 rcut_of ts d _ _ i m w h.n3 h.m3 (fun w1 hb1 => rdo_cut ts d i hi (fD d i) (h.fd hi) m hm w1 (h.below hb1) hur hfew)
theorem lso_low {w : World} {base base' : Nat} {v : Value} {ls : List (List UInt8)} (h : LsO w base v ls) (hb : base' ≤ base) : LsO w base' v ls := by
 obtain ⟨hs, h1, h2⟩ := h.all
 exact ⟨hs, own_base h1 (fun k hk => by have := (h1.lt k hk).1; omega), fun j hj => by
  obtain ⟨q, k, a, b⟩ := h2 j hj
  exact ⟨q, k, a, own_base b (fun i hi => by have := (b.lt i hi).1; omega)⟩⟩
def RBodP (l : List UInt8) (w : World) (e : Ending) (w' : World) : Prop := ∃ v, e = .returned v ∧ LsO w' w.heap.size v (scan l).1 ∧ Below w.heap.size w w'
set_option maxRecDepth 100000 in
set_option maxHeartbeats 1600000 in
theorem rbodies_any (ts : List RF) (d : DD) (i : Nat) (hi : i < 3) (w : World) (h : RDB w ts d) :
  Calls Tryz.prog 53 #[.agg (rdA ts d), .int .i64 (i : Int)] w (RBodP (fD d i).now w) := by
 have HB1 := Lib.hid (Below.allocs w (.cells (rdA ts d) 65))
 have HROW : Hid ((w.alloc (.cells (rdA ts d) 65)).heap[w.heap.size]? = some (.cells (rdA ts d) 65 (0, 0))) := heap_alloc_last _ _
 have HR := Lib.hid (h.below HB1.out)
 have hi3i : (i : Int) < 3 := by omega
 have hti : i < ts.length := by rw [h.n3]; exact hi
 have ht : ts[i]? = some (ts[i]'hti) := List.getElem?_eq_getElem hti
 generalize ts[i]'hti = t at *
 have HF := Lib.hid (h.fd hi)
 have HT := Lib.hid ht
 have HNB : Hid ((fD d i).need ≤ 1000000) := by
  obtain ⟨t', f', _, a, _, _, b⟩ := h.at.file i hi
  rw [h.fd hi] at a
  cases a; exact b
 clear h ht hti
 go_enter Tryz.func53, Tryz.ntmps53
 go_upto_region 1 with fail
 generalize w.alloc (.cells (rdA ts d) 65) = w1 at *
 have HRG := Lib.hid (rd_range HR.out.n3 HR.out.m3 HROW.out i HT.out HF.out)
 have HHO := Lib.hid (rholds_any t (fD d i) w1 (HR.out.each i t _ HT.out HF.out).1.now HNB.out)
 have HLE : Hid ((fD d i).now.length ≤ 1000000) := Nat.le_trans (HR.out.each i t _ HT.out HF.out).1.now.ok.le HNB.out
 generalize (fD d i).now = L at *
 go_wp2_with ((with_reducible refine wpAt 11 ?_); refine wpList_load_mid rfl 62 _ rfl w.heap.size (i * 2) rfl (fA t (fD d i)).toList _ HRG.out Tryz.underlying62 rfl (infoFi (fA t (fD d i)) rfl) ?_)
 try rw [Array.toArray_toList]
 refine HHO.out.mono ?_
 rintro e w5 ⟨p5, c5, rfl, ho5, hb5⟩
 have HB5 := Lib.hid (HB1.out.trans (hb5.mono HB1.out.size))
 have HSC := Lib.hid (Frm.rscanO_any p5 L.length c5 L w5 (Cut.own_bs ho5) HLE.out)
 clear ho5 hb5 HHO
 go_wp2_with fail
 refine HSC.out.mono ?_
 rintro e w6 ⟨v, rfl, hls, hb6⟩
 have HB6 := Lib.hid (HB5.out.trans (hb6.mono HB5.out.size))
 have hls2 := lso_low hls HB5.out.size
 have HL6 := Lib.hid hls2
 clear hls hls2 hb6 HSC
 go_wp2_with fail
 go_ret
 exact ⟨v, rfl, HL6.out, HB6.out⟩
end Go.Proofs.YtnejjfglkindjaaGreatDoor.Rk
namespace Go.Proofs.YtnejjfglkindjaaGreatDoor.Slt
open Go.RowKit Go.Mir Go.Mir.Parts Dk Rol Rk Wr
open Frm (one)
def RBs (w : World) (p : Option Addr) (n c : Nat) (l : List UInt8) : Prop := ∀ y, KR 0 w y → Bs y p n c l
theorem RBs.step {w w' : World} {p : Option Addr} {n c : Nat} {l : List UInt8} (h : RBs w p n c l) (k : KR 0 w w') : RBs w' p n c l := fun y hy => h y (k.trans hy)
theorem RBs.below {w w' : World} {p : Option Addr} {n c : Nat} {l : List UInt8} (h : RBs w p n c l) (k : Below w.heap.size w w') : RBs w' p n c l := h.step (KR.of_below k)
theorem RBs.bs {w : World} {p : Option Addr} {n c : Nat} {l : List UInt8} (h : RBs w p n c l) : Bs w p n c l := h w (KR.refl 0 w)
theorem RBs.nil (w : World) : RBs w none 0 0 [] := fun _ _ => Sl.nil _ _
theorem RBs.own {w : World} {base n : Nat} {p : Option Addr} {c : Nat} {l : List UInt8} (h : w.ownsRow base 5 1 (.slice p n c) n (bytesV l)) : RBs w p n c l := fun _ hy => Cut.own_bs (hy.own h (fun hh => hh.1 rfl))
theorem RBs.drop {w : World} {p : Option Addr} {n c : Nat} {l : List UInt8} (h : RBs w p n c l) (k : Nat) (hk : k ≤ n) : RBs w (Cut.cutQ p c k) (n - k) (c - k) (l.drop k) := fun y hy => Cut.bs_drop (h y hy) k hk
def RLoadP (l : List UInt8) (w : World) (e : Ending) (w' : World) : Prop := ∃ p c, e = .returned (.tuple #[.int .u64 ((loadP l).1 : Int), .slice p (loadP l).2.length c]) ∧ RBs w' p (loadP l).2.length c (loadP l).2 ∧ Below w.heap.size w w'
set_option maxRecDepth 100000 in
set_option maxHeartbeats 3200000 in
theorem rload_any (ts : List RF) (d : DD) (i : Nat) (hi : i < 3) (w : World) (h : RDB w ts d) :
  Calls Tryz.prog 101 #[.agg (rdA ts d), .int .i64 (i : Int)] w (RLoadP (fD d i).now w) := by
 have HB1 := Lib.hid (Below.allocs w (.cells (rdA ts d) 65))
 have HROW : Hid ((w.alloc (.cells (rdA ts d) 65)).heap[w.heap.size]? = some (.cells (rdA ts d) 65 (0, 0))) := heap_alloc_last _ _
 have HR := Lib.hid (h.below HB1.out)
 have hi3i : (i : Int) < 3 := by omega
 have hti : i < ts.length := by rw [h.n3]; exact hi
 have ht : ts[i]? = some (ts[i]'hti) := List.getElem?_eq_getElem hti
 generalize ts[i]'hti = t at *
 have HF := Lib.hid (h.fd hi)
 have HT := Lib.hid ht
 have HNB : Hid ((fD d i).need ≤ 1000000) := by
  obtain ⟨t', f', _, a, _, _, b⟩ := h.at.file i hi
  rw [h.fd hi] at a
  cases a; exact b
 clear h ht hti
 go_enter Tryz.func101, Tryz.ntmps101
 go_upto_region 1 with fail
 generalize w.alloc (.cells (rdA ts d) 65) = w1 at *
 have HRG := Lib.hid (rd_range HR.out.n3 HR.out.m3 HROW.out i HT.out HF.out)
 have HHO := Lib.hid (rholds_any t (fD d i) w1 (HR.out.each i t _ HT.out HF.out).1.now HNB.out)
 have HLE : Hid ((fD d i).now.length ≤ 1000000) := Nat.le_trans (HR.out.each i t _ HT.out HF.out).1.now.ok.le HNB.out
 generalize (fD d i).now = L at *
 have HX65 := Lib.hid (one_len L)
 obtain ⟨X, hX⟩ : ∃ X, (one L).1 = X := ⟨_, rfl⟩
 obtain ⟨E, hE⟩ : ∃ E, (one L).2.2 = E := ⟨_, rfl⟩
 have HLP : Hid (loadP L = if E = 0 ∧ 8 ≤ X.length then (Rdr.beN (X.take 8), X.drop 8) else (0, [])) := by show _ = _; unfold loadP; rw [hX, hE]
 have HOX := Lib.hid hX
 have HOE := Lib.hid hE
 clear hX hE
 rw [HOX.out] at HX65
 go_wp2_with ((with_reducible refine wpAt 15 ?_); refine wpList_load_mid rfl 62 _ rfl w.heap.size (i * 2) rfl (fA t (fD d i)).toList _ HRG.out Tryz.underlying62 rfl (infoFi (fA t (fD d i)) rfl) ?_)
 try rw [Array.toArray_toList]
 refine HHO.out.mono ?_
 rintro e w5 ⟨p5, c5, rfl, ho5, hb5⟩
 have HB5 := Lib.hid (HB1.out.trans (hb5.mono HB1.out.size))
 have hon := Frm.rone_any p5 L.length c5 L w5 (Cut.own_bs ho5) (by have := HLE.out; omega)
 unfold Frm.OneP at hon
 rw [HOX.out, HOE.out] at hon
 have HON := Lib.hid hon
 clear ho5 hb5 HHO hon HB1
 go_wp2_with fail
 refine HON.out.mono ?_
 rintro e w6 ⟨p6, c6, rfl, ho6, hb6⟩
 have HB6 := Lib.hid (HB5.out.trans (hb6.mono HB5.out.size))
 have HRB := Lib.hid (RBs.own ho6)
 have HBS := Lib.hid (Cut.own_bs ho6)
 clear ho6 hb6 HON HB5
 have hle := HBS.out.le
 have hmax := HBS.out.max
 generalize (one L).2.1 = N at *
 by_cases hE0 : E = 0
 ·have he1 : (E != 0) = false := by rw [hE0]; rfl
  by_cases h8 : 8 ≤ X.length
  ·have d1 : decide ((X.length : Int) < 8) = false := decide_eq_false (by omega)
   have d2 : decide (X.length < 8) = false := decide_eq_false (by omega)
   have hlp := HLP.out
   rw [if_pos ⟨hE0, h8⟩] at hlp
   have HL2 := Lib.hid hlp
   have HLEN := Lib.hid h8
   clear hE0 hlp HLP
   go_upto_region 6 with fail
   clear d1 d2 he1
   go_loop [9, 10] (fun x j => ∃ k : Nat, k ≤ 8 ∧ j = .int .i64 k ∧ x = .int .u64 (Rdr.beN (X.take k) : Nat)) (fun _ j => 8 - (intOf j).toNat)
   case atStart => exact ⟨0, by omega, rfl, rfl⟩
   case round =>
    obtain ⟨k, hk, rfl, rfl⟩ := hrel
    by_cases hlt : k < 8
    ·have hd : decide ((k:Int) < 8) = true := decide_eq_true (by omega)
     have hd2 : decide (k < 8) = true := decide_eq_true hlt
     obtain ⟨b', o', rfl⟩ := HBS.out.addr (by omega) (by omega)
     have hkl : k < X.length := by omega
     have hc' := Bs.byte HBS.out (j := k) hkl
     have hbe := Rdr.beN_snoc (X.take k) (X[k]'hkl)
     rw [← take_snoc X k hkl] at hbe
     have hb1 := Rdr.beN_lt_pow (X.take (k + 1))
     have hb2 : 256 ^ (X.take (k + 1)).length ≤ 256 ^ 8 := Nat.pow_le_pow_right (by omega) (by rw [List.length_take]; omega)
     have hb4 : (256 : Nat) ^ 8 = 18446744073709551616 := by decide
     generalize X[k]'hkl = y at *
     have hll : y.toNat < 256 := y.toNat_lt
     generalize hB0 : Rdr.beN (X.take k) = B at *
     generalize hB2 : Rdr.beN (X.take (k + 1)) = B2 at *
     have HB2 := Lib.hid hB2
     have q1 : IntKind.u64.wrap ((256 : Int) * (B : Int)) = ((256 * B : Nat) : Int) := by rw [IntKind.wrap_u64]; omega
     have q2 : IntKind.u64.wrap (((256 * B : Nat) : Int) + (y.toNat : Int)) = (B2 : Int) := by rw [IntKind.wrap_u64]; omega
     have q3 : IntKind.u64.wrap ((256 : Int) * (B : Int) + (y.toNat : Int)) = (B2 : Int) := by rw [IntKind.wrap_u64]; omega
     have HW := Lib.hid q1
     have HW2 := Lib.hid q2
     have HW3 := Lib.hid q3
     clear hB0 hB2 hbe hb1 hb2 hb4
     go_wp2_with fail
     go_round
     case rel =>
      exact ⟨k + 1, by omega, by go_num, by first | rw [HB2.out] | (rw [HW.out, HW2.out, HB2.out]) | (rw [HW3.out, HB2.out])⟩
     case measure => simp [intOf]; omega
    ·obtain rfl : k = 8 := by omega
     have hd : decide ((8:Int) < 8) = false := by decide
     have hrun := Cut.cutR HBS.out 8 8 rfl HLEN.out
     generalize Rdr.beN (X.take 8) = TN at *
     have hrd := Lib.hid (HRB.out.drop 8 HLEN.out)
     have hdl : (X.drop 8).length = X.length - 8 := List.length_drop
     have HDL := Lib.hid hdl
     generalize X.drop 8 = RB at *
     clear hdl
     go_upto_region 9 with fail
     refine wp_region_eager [(0, true), (1, true), (2, true), (3, true), (4, true)] (by kernel_rfl) (by kernel_rfl) (eagerOpen rfl ?_)
     have hy0 : Below w6.heap.size w6 w6.drew := below_drew1 _ _
     repeat (first
      | ((first | (apply wpEager_take; (· rfl); (· (intro w' hb'; go_simp; try with_reducible rfl))) | refine wpEager_skip (by rfl) ?_ | refine wpEager_off (by rfl) ?_); (try simp only [Act.put, zA, zB, zC]); (try refine eagerOpen rfl ?_)))
     refine eagerEnd ?_
     have HB7 := Lib.hid (HB6.out.trans (hy0.mono HB6.out.size))
     have HRB7 := Lib.hid (hrd.out.below hy0)
     clear hrd hy0
     go_wp2_with fail
     go_ret2
     unfold RLoadP
     rw [HL2.out]
     refine ⟨Cut.cutQ p6 c6 8, c6 - 8, ?_, ?_, HB7.out⟩
     ·show _ = Ending.returned (.tuple #[.int .u64 (TN : Int), .slice _ RB.length _])
      rw [HDL.out]
      rfl
     ·show RBs _ _ RB.length _ RB
      rw [HDL.out]; exact HRB7.out
  ·have d1 : decide ((X.length : Int) < 8) = true := decide_eq_true (by omega)
   have d2 : decide (X.length < 8) = true := decide_eq_true (by omega)
   have hlp := HLP.out
   rw [if_neg (fun hh => h8 hh.2)] at hlp
   have HL2 := Lib.hid hlp
   clear hE0 hlp HLP h8
   go_wp2_with fail
   go_ret2
   unfold RLoadP
   rw [HL2.out]
   exact ⟨none, 0, rfl, RBs.nil _, HB6.out⟩
 ·have he1 : (E != 0) = true := bne_iff_ne.2 hE0
  have hlp := HLP.out
  rw [if_neg (fun hh => hE0 hh.1)] at hlp
  have HL2 := Lib.hid hlp
  clear hE0 hlp HLP
  go_wp2_with fail
  go_ret2
  unfold RLoadP
  rw [HL2.out]
  exact ⟨none, 0, rfl, RBs.nil _, HB6.out⟩
end Go.Proofs.YtnejjfglkindjaaGreatDoor.Slt
namespace Go.Proofs.YtnejjfglkindjaaGreatDoor.Slt
open Go.RowKit Go.Mir Go.Mir.Parts Dk Rol Rk Wr
def rsA (a b : Nat) (s : SS) (p : Option Addr) (c : Nat) : Array Value := #[.int .i64 (a : Int), .int .i64 (b : Int), .int .i64 s.now, .int .u64 (s.turn : Int), .slice p s.body.length c]
def zS : Array Value := #[.int .i64 0, .int .i64 0, .int .i64 0, .int .u64 0, .slice none 0 0]
theorem zeroRS (w : World) : (zeroValue 74).run Tryz.prog w = .ok (.agg zS) w := by kernel_rfl
theorem infoRS (n : Nat) (h : n = 5) : (Tryz.prog.info? 74).map (·.size) = some n := by subst h; kernel_rfl
theorem rsA_one (a b : Nat) (s : SS) (p : Option Addr) (c : Nat) : (rsA a b s p c).all (·.oneCell') = true := by simp [rsA, Value.oneCell']
theorem built_rs (a b : Nat) : Tryz.prog.built 74 [(0, .int .i64 (a : Int)), (1, .int .i64 (b : Int)), (2, .int .i64 (-1))] = some (rsA a b ⟨-1, 0, []⟩ none 0) := by kernel_rfl
theorem rs_cells {w : World} {g a b : Nat} {s : SS} {p : Option Addr} {c : Nat} {t : TypeId} (h : w.heap[g]? = some (.cells (rsA a b s p c) t (0, 0))) :
  w.cell? ⟨g, 0, none⟩ = some (.int .i64 (a : Int)) ∧ w.cell? ⟨g, 1, none⟩ = some (.int .i64 (b : Int)) ∧ w.cell? ⟨g, 2, none⟩ = some (.int .i64 s.now) ∧ w.cell? ⟨g, 3, none⟩ = some (.int .u64 (s.turn : Int)) ∧ w.cell? ⟨g, 4, none⟩ = some (.slice p s.body.length c) ∧ ∀ j, w.frozen? ⟨g, j, none⟩ = false := by
 refine ⟨?_, ?_, ?_, ?_, ?_, fun j => frozen_of_row _ _ j _ _ h⟩ <;> (rw [cell_of_row _ _ _ _ _ _ h]; rfl)
theorem kr_turn {base g : Nat} {a b : World} {M : Array Value} {t : TypeId} {fr : Nat × Nat} (h : Turns (fun k => k = g) a b) (hr : a.heap[g]? = some (.cells M t fr)) (h1 : t ≠ 5) (h2 : t ≠ 112) : KR base a b :=
 h.imp (fun k _ hk => by subst hk; exact ⟨_, _, _, hr, h1, h2⟩)
theorem rs_set3 {w : World} {g a b : Nat} {s : SS} {p : Option Addr} {c : Nat} (h : w.heap[g]? = some (.cells (rsA a b s p c) 74 (0, 0))) (n : Int) (t : Nat) (p' : Option Addr) (c' : Nat) (l : List UInt8) :
  (((w.setCell ⟨g, 2, none⟩ (.int .i64 n)).setCell ⟨g, 3, none⟩ (.int .u64 (t : Int))).setCell ⟨g, 4, none⟩ (.slice p' l.length c')).heap[g]? = some (.cells (rsA a b ⟨n, t, l⟩ p' c') 74 (0, 0)) ∧
   Turns (fun k => k = g) w (((w.setCell ⟨g, 2, none⟩ (.int .i64 n)).setCell ⟨g, 3, none⟩ (.int .u64 (t : Int))).setCell ⟨g, 4, none⟩ (.slice p' l.length c')) := by
 have e1 := Dk.cell_put (off := 2) (.int .i64 n) h
 have e2 := Dk.cell_put (off := 3) (.int .u64 (t : Int)) e1
 have e3 := Dk.cell_put (off := 4) (.slice p' l.length c') e2
 have t1 : Turns (fun k => k = g) w (w.setCell ⟨g, 2, none⟩ (.int .i64 n)) := Turns.setCell (S := fun k => k = g) (p := ⟨g, 2, none⟩) (Turns.refl _ w) (fun _ => rfl) (.int .i64 n)
 have t2 : Turns (fun k => k = g) w ((w.setCell ⟨g, 2, none⟩ (.int .i64 n)).setCell ⟨g, 3, none⟩ (.int .u64 (t : Int))) := Turns.setCell (S := fun k => k = g) (p := ⟨g, 3, none⟩) t1 (fun _ => rfl) (.int .u64 (t : Int))
 exact ⟨e3, Turns.setCell (S := fun k => k = g) (p := ⟨g, 4, none⟩) t2 (fun _ => rfl) (.slice p' l.length c')⟩
def ROpP (d : DD) (a b : Nat) (w : World) (e : Ending) (w' : World) : Prop := ∃ p c, e = .returned (.tuple #[.agg (rsA a b (opnS d a b) p c), .int .i64 0]) ∧ RBs w' p (opnS d a b).body.length c (opnS d a b).body ∧ Below w.heap.size w w'
theorem opn_form {d : DD} {a b n m : Nat} {x y : List UInt8} (hA : loadP (fD d a).now = (n, x)) (hB : loadP (fD d b).now = (m, y)) : opnS d a b = if n < m then ⟨(b : Int), m, y⟩ else if 0 < n then ⟨(a : Int), n, x⟩ else ⟨-1, 0, []⟩ := by
 have h1 : bet ⟨-1, 0, []⟩ a (fD d a).now = if 0 < n then ⟨(a : Int), n, x⟩ else ⟨-1, 0, []⟩ := by unfold bet; rw [hA]
 have h2 : (if 0 < n then (⟨(a : Int), n, x⟩ : SS) else ⟨-1, 0, []⟩).turn = n := by
  split
  ·rfl
  ·show 0 = n; omega
 unfold opnS
 rw [h1]
 unfold bet
 rw [hB, h2]
set_option maxRecDepth 100000 in
set_option maxHeartbeats 6400000 in
theorem ropenS_any (ts : List RF) (d : DD) (a b : Nat) (ha : a < 3) (hb : b < 3) (hne : a ≠ b) (hdn : d.down = false) (w : World) (h : RDB w ts d) :
  Calls Tryz.prog 50 #[.agg (rdA ts d), .int .i64 (a : Int), .int .i64 (b : Int)] w (ROpP d a b w) := by
 have hz := zeroRS
 obtain ⟨q1, q2, q3, q4⟩ := two_allocs w (.cells (rdA ts d) 65) (.cells zS 74)
 have HROW := Lib.hid q1
 have HZX := Lib.hid q2
 have HLOW := Lib.hid q4
 have HR := Lib.hid (h.below q4)
 have HSZ := Lib.hid q3
 have HA := Lib.hid ha
 have HB := Lib.hid hb
 obtain ⟨hc6, _, hc8, hfz⟩ := rd_cells h.n3 h.m3 q1
 rw [hdn] at hc8
 have hrm := h.room1.1
 have e1 : ((d.room : Int) == 0) = false := by rw [beq_eq_false_iff_ne]; omega
 have d1 : decide ((a : Int) < 0) = false := decide_eq_false (by omega)
 have d2 : decide ((2 : Int) < (a : Int)) = false := decide_eq_false (by omega)
 have d3 : decide (2 < a) = false := decide_eq_false (by omega)
 have d4 : decide ((b : Int) < 0) = false := decide_eq_false (by omega)
 have d5 : decide ((2 : Int) < (b : Int)) = false := decide_eq_false (by omega)
 have d6 : decide (2 < b) = false := decide_eq_false (by omega)
 have e2 : ((a : Int) == (b : Int)) = false := by rw [beq_eq_false_iff_ne]; omega
 have e3 : (a == b) = false := by rw [beq_eq_false_iff_ne]; omega
 clear q1 q2 q3 q4 h ha hb hne hdn hrm
 go_enter Tryz.func50, Tryz.ntmps50
 go_upto_region 1 with fail
 generalize (w.alloc (.cells (rdA ts d) 65)).alloc (.cells zS 74) = w2 at *
 go_upto_region 7 with fail
 clear hc6 hc8 hfz e1 d1 d2 d3 d4 d5 d6 e2 e3
 go_upto_region 8 with (first
  | refine Rdr.wpList_build rfl 74 _ rfl [(0, .int .i64 (a : Int)), (1, .int .i64 (b : Int)), (2, .int .i64 (-1))] rfl _ (built_rs a b) ?_
  | refine wpList_store_row rfl 74 _ _ rfl w2.heap.size (rsA a b ⟨-1, 0, []⟩ none 0) rfl rfl 74 zS (heap_alloc_last _ _) (infoRS _ rfl) rfl (rsA_one _ _ _ _ _) ?_)
 try simp only [Act.put]
 have hb3 : Below w2.heap.size w2 ((w2.alloc (.cells zS 74)).setRow w2.heap.size (rsA a b ⟨-1, 0, []⟩ none 0)) := below_setRow (Below.allocs w2 _) (Nat.le_refl _) _
 have HSR := Lib.hid (setRow_heap _ _ _ (rsA a b ⟨-1, 0, []⟩ none 0) _ _ (heap_alloc_last w2 (.cells zS 74)))
 have hlow := HLOW.out.trans (hb3.mono HLOW.out.size)
 have hrow := Below.keepOld hb3 HROW.out
 have hzx := Below.keepOld hb3 HZX.out
 have hr3 := HR.out.below hb3
 clear HLOW HROW HZX HR hb3
 generalize (w2.alloc (.cells zS 74)).setRow w2.heap.size (rsA a b ⟨-1, 0, []⟩ none 0) = w3 at *
 generalize w2.heap.size = g8 at *
 have HG8 : Hid (w.heap.size + 2 ≤ g8) := by show _ ≤ _; rw [HSZ.out]; exact Nat.le_refl _
 have HRL := Lib.hid (rload_any ts d a HA.out w3 hr3)
 go_wp2_with (refine wpList_load_row rfl 65 _ rfl w.heap.size rfl 65 (rdA ts d) (0, 0) _ hrow Tryz.underlying65 rfl (infoRD _ (rdA_size hr3.n3 hr3.m3)) ?_)
 refine HRL.out.mono ?_
 rintro e w4 ⟨p4, c4, rfl, hrb4, hb4⟩
 have hl4 := hlow.trans (hb4.mono hlow.size)
 have hw4 := Below.keepOld hb4 hrow
 have hz4 := Below.keepOld hb4 hzx
 have hr4 := hr3.below hb4
 have hs4 := Below.keepOld hb4 HSR.out
 have HRL4 := Lib.hid (rload_any ts d b HB.out w4 hr4)
 clear hlow hrow hzx hr3 HSR HRL hb4
 go_wp2_with (refine wpList_load_row rfl 65 _ rfl w.heap.size rfl 65 (rdA ts d) (0, 0) _ hw4 Tryz.underlying65 rfl (infoRD _ (rdA_size hr4.n3 hr4.m3)) ?_)
 refine HRL4.out.mono ?_
 rintro e w5 ⟨p5, c5, rfl, hrb5, hb5⟩
 have HLOW := Lib.hid (hl4.trans (hb5.mono hl4.size))
 have HZX := Lib.hid (Below.keepOld hb5 hz4)
 have HSR := Lib.hid (Below.keepOld hb5 hs4)
 have HB4 := Lib.hid (hrb4.below hb5)
 have HB5 := Lib.hid hrb5
 clear hl4 hw4 hz4 hr4 hs4 HRL4 hrb4 hrb5 hb5
 have hof := fun n x m y => @opn_form d a b n m x y
 obtain ⟨SE, hSE⟩ : ∃ SE, opnS d a b = SE := ⟨_, rfl⟩
 have HSE := Lib.hid hSE
 rw [hSE] at hof
 clear hSE
 generalize hA : loadP (fD d a).now = LA at *
 generalize hB : loadP (fD d b).now = LB at *
 obtain ⟨n, x⟩ := LA
 obtain ⟨m, y⟩ := LB
 have HF := Lib.hid (hof n x m y rfl rfl)
 have HB4 : Hid (RBs w5 p4 x.length c4 x) := HB4
 have HB5 : Hid (RBs w5 p5 y.length c5 y) := HB5
 clear hof hA hB
 dsimp only
 by_cases hnm : n < m
 ·have n1 : decide ((n : Int) < (m : Int)) = true := decide_eq_true (by omega)
  have n2 : decide (n < m) = true := decide_eq_true hnm
  have hfe := HF.out
  rw [if_pos hnm] at hfe
  by_cases h0 : 0 < n
  ·have n3 : decide ((0 : Int) < (n : Int)) = true := decide_eq_true (by omega)
   have n4 : decide (0 < n) = true := decide_eq_true h0
   clear hnm h0 HF
   skip
   have hset := rs_set3 HSR.out (a : Int) n p4 c4 x
   obtain ⟨_, _, q2, q3, q4, hfz⟩ := rs_cells HSR.out
   have HSET := Lib.hid hset
   have HSRO := HSR
   clear hset HSR
   go_upto_region 14 with fail
   clear q2 q3 q4 hfz
   have HSR := Lib.hid HSET.out.1
   have HKR := Lib.hid (kr_turn (base := 0) HSET.out.2 HSRO.out (by decide) (by decide))
   have hlow := HLOW.out.trans (HSET.out.2.below HLOW.out.size (fun k hk => by have hk : k = g8 := hk; have := HG8.out; omega))
   have hzx := HSET.out.2.keep HZX.out (by show ¬ w.heap.size + 1 = g8; have := HG8.out; omega)
   clear HLOW HZX HSET HSRO
   have HLOW := Lib.hid hlow
   have HZX := Lib.hid hzx
   clear hlow hzx
   generalize ((w5.setCell ⟨g8, 2, none⟩ (.int .i64 ((a : Int)))).setCell ⟨g8, 3, none⟩ (.int .u64 (n : Int))).setCell ⟨g8, 4, none⟩ (.slice p4 x.length c4) = w6 at *
   have HB5 := Lib.hid (HB5.out.step HKR.out)
   clear HKR HB4
   skip
   have hset := rs_set3 HSR.out (b : Int) m p5 c5 y
   obtain ⟨_, _, q2, q3, q4, hfz⟩ := rs_cells HSR.out
   have HSET := Lib.hid hset
   have HSRO := HSR
   clear hset HSR
   go_upto_region 18 with fail
   clear q2 q3 q4 hfz
   have HSR := Lib.hid HSET.out.1
   have HKR := Lib.hid (kr_turn (base := 0) HSET.out.2 HSRO.out (by decide) (by decide))
   have hlow := HLOW.out.trans (HSET.out.2.below HLOW.out.size (fun k hk => by have hk : k = g8 := hk; have := HG8.out; omega))
   have hzx := HSET.out.2.keep HZX.out (by show ¬ w.heap.size + 1 = g8; have := HG8.out; omega)
   clear HLOW HZX HSET HSRO
   have HLOW := Lib.hid hlow
   have HZX := Lib.hid hzx
   clear hlow hzx
   generalize ((w6.setCell ⟨g8, 2, none⟩ (.int .i64 ((b : Int)))).setCell ⟨g8, 3, none⟩ (.int .u64 (m : Int))).setCell ⟨g8, 4, none⟩ (.slice p5 y.length c5) = w7 at *
   have HBB := Lib.hid (HB5.out.step HKR.out)
   clear HKR n1 n2 n3 n4
   subst hfe
   skip
   go_wp2_with (first
    | refine wpList_load_row rfl 74 _ rfl g8 rfl 74 (rsA a b (⟨(b : Int), m, y⟩ : SS) p5 c5) (0, 0) _ HSR.out Tryz.underlying74 rfl (infoRS _ rfl) ?_
    | refine wpList_store_row rfl 74 _ _ rfl (w.heap.size + 1) (rsA a b (⟨(b : Int), m, y⟩ : SS) p5 c5) rfl rfl 74 zS HZX.out (infoRS _ rfl) rfl (rsA_one _ _ _ _ _) ?_)
   have HS := Lib.hid (setRow_heap _ _ _ (rsA a b (⟨(b : Int), m, y⟩ : SS) p5 c5) _ _ HZX.out)
   refine bodyPost_ret (results_cell_tmp2 rfl _ _ _ _ _ _ _ rfl HS.out Tryz.underlying74 rfl (infoRS _ rfl)) rfl ?_
   exact ⟨p5, c5, by rw [HSE.out]; rfl, by rw [HSE.out]; exact HBB.out.step (kr_turn (turns_setRow _ _ _) HZX.out (by decide) (by decide)), below_setRow HLOW.out (by omega) _⟩
  ·have n3 : decide ((0 : Int) < (n : Int)) = false := decide_eq_false (by omega)
   have n4 : decide (0 < n) = false := decide_eq_false h0
   clear hnm h0 HF
   go_upto_region 14 with fail
   skip
   have hset := rs_set3 HSR.out (b : Int) m p5 c5 y
   obtain ⟨_, _, q2, q3, q4, hfz⟩ := rs_cells HSR.out
   have HSET := Lib.hid hset
   have HSRO := HSR
   clear hset HSR
   go_upto_region 18 with fail
   clear q2 q3 q4 hfz
   have HSR := Lib.hid HSET.out.1
   have HKR := Lib.hid (kr_turn (base := 0) HSET.out.2 HSRO.out (by decide) (by decide))
   have hlow := HLOW.out.trans (HSET.out.2.below HLOW.out.size (fun k hk => by have hk : k = g8 := hk; have := HG8.out; omega))
   have hzx := HSET.out.2.keep HZX.out (by show ¬ w.heap.size + 1 = g8; have := HG8.out; omega)
   clear HLOW HZX HSET HSRO
   have HLOW := Lib.hid hlow
   have HZX := Lib.hid hzx
   clear hlow hzx
   generalize ((w5.setCell ⟨g8, 2, none⟩ (.int .i64 ((b : Int)))).setCell ⟨g8, 3, none⟩ (.int .u64 (m : Int))).setCell ⟨g8, 4, none⟩ (.slice p5 y.length c5) = w7 at *
   have HBB := Lib.hid (HB5.out.step HKR.out)
   clear HKR n1 n2 n3 n4
   subst hfe
   skip
   go_wp2_with (first
    | refine wpList_load_row rfl 74 _ rfl g8 rfl 74 (rsA a b (⟨(b : Int), m, y⟩ : SS) p5 c5) (0, 0) _ HSR.out Tryz.underlying74 rfl (infoRS _ rfl) ?_
    | refine wpList_store_row rfl 74 _ _ rfl (w.heap.size + 1) (rsA a b (⟨(b : Int), m, y⟩ : SS) p5 c5) rfl rfl 74 zS HZX.out (infoRS _ rfl) rfl (rsA_one _ _ _ _ _) ?_)
   have HS := Lib.hid (setRow_heap _ _ _ (rsA a b (⟨(b : Int), m, y⟩ : SS) p5 c5) _ _ HZX.out)
   refine bodyPost_ret (results_cell_tmp2 rfl _ _ _ _ _ _ _ rfl HS.out Tryz.underlying74 rfl (infoRS _ rfl)) rfl ?_
   exact ⟨p5, c5, by rw [HSE.out]; rfl, by rw [HSE.out]; exact HBB.out.step (kr_turn (turns_setRow _ _ _) HZX.out (by decide) (by decide)), below_setRow HLOW.out (by omega) _⟩
 ·have n1 : decide ((n : Int) < (m : Int)) = false := decide_eq_false (by omega)
  have n2 : decide (n < m) = false := decide_eq_false hnm
  have hfe := HF.out
  rw [if_neg hnm] at hfe
  by_cases h0 : 0 < n
  ·have n3 : decide ((0 : Int) < (n : Int)) = true := decide_eq_true (by omega)
   have n4 : decide (0 < n) = true := decide_eq_true h0
   rw [if_pos h0] at hfe
   clear hnm h0 HF
   skip
   have hset := rs_set3 HSR.out (a : Int) n p4 c4 x
   obtain ⟨_, _, q2, q3, q4, hfz⟩ := rs_cells HSR.out
   have HSET := Lib.hid hset
   have HSRO := HSR
   clear hset HSR
   go_upto_region 14 with fail
   clear q2 q3 q4 hfz
   have HSR := Lib.hid HSET.out.1
   have HKR := Lib.hid (kr_turn (base := 0) HSET.out.2 HSRO.out (by decide) (by decide))
   have hlow := HLOW.out.trans (HSET.out.2.below HLOW.out.size (fun k hk => by have hk : k = g8 := hk; have := HG8.out; omega))
   have hzx := HSET.out.2.keep HZX.out (by show ¬ w.heap.size + 1 = g8; have := HG8.out; omega)
   clear HLOW HZX HSET HSRO
   have HLOW := Lib.hid hlow
   have HZX := Lib.hid hzx
   clear hlow hzx
   generalize ((w5.setCell ⟨g8, 2, none⟩ (.int .i64 ((a : Int)))).setCell ⟨g8, 3, none⟩ (.int .u64 (n : Int))).setCell ⟨g8, 4, none⟩ (.slice p4 x.length c4) = w6 at *
   have HBB := Lib.hid (HB4.out.step HKR.out)
   clear HKR HB5
   go_upto_region 18 with fail
   clear n1 n2 n3 n4
   subst hfe
   skip
   go_wp2_with (first
    | refine wpList_load_row rfl 74 _ rfl g8 rfl 74 (rsA a b (⟨(a : Int), n, x⟩ : SS) p4 c4) (0, 0) _ HSR.out Tryz.underlying74 rfl (infoRS _ rfl) ?_
    | refine wpList_store_row rfl 74 _ _ rfl (w.heap.size + 1) (rsA a b (⟨(a : Int), n, x⟩ : SS) p4 c4) rfl rfl 74 zS HZX.out (infoRS _ rfl) rfl (rsA_one _ _ _ _ _) ?_)
   have HS := Lib.hid (setRow_heap _ _ _ (rsA a b (⟨(a : Int), n, x⟩ : SS) p4 c4) _ _ HZX.out)
   refine bodyPost_ret (results_cell_tmp2 rfl _ _ _ _ _ _ _ rfl HS.out Tryz.underlying74 rfl (infoRS _ rfl)) rfl ?_
   exact ⟨p4, c4, by rw [HSE.out]; rfl, by rw [HSE.out]; exact HBB.out.step (kr_turn (turns_setRow _ _ _) HZX.out (by decide) (by decide)), below_setRow HLOW.out (by omega) _⟩
  ·have n3 : decide ((0 : Int) < (n : Int)) = false := decide_eq_false (by omega)
   have n4 : decide (0 < n) = false := decide_eq_false h0
   rw [if_neg h0] at hfe
   clear hnm h0 HF
   have HBB := Lib.hid (RBs.nil w5)
   go_upto_region 18 with fail
   clear n1 n2 n3 n4
   subst hfe
   skip
   go_wp2_with (first
    | refine wpList_load_row rfl 74 _ rfl g8 rfl 74 (rsA a b (⟨-1, 0, []⟩ : SS) none 0) (0, 0) _ HSR.out Tryz.underlying74 rfl (infoRS _ rfl) ?_
    | refine wpList_store_row rfl 74 _ _ rfl (w.heap.size + 1) (rsA a b (⟨-1, 0, []⟩ : SS) none 0) rfl rfl 74 zS HZX.out (infoRS _ rfl) rfl (rsA_one _ _ _ _ _) ?_)
   have HS := Lib.hid (setRow_heap _ _ _ (rsA a b (⟨-1, 0, []⟩ : SS) none 0) _ _ HZX.out)
   refine bodyPost_ret (results_cell_tmp2 rfl _ _ _ _ _ _ _ rfl HS.out Tryz.underlying74 rfl (infoRS _ rfl)) rfl ?_
   exact ⟨none, 0, by rw [HSE.out]; rfl, by rw [HSE.out]; exact HBB.out.step (kr_turn (turns_setRow _ _ _) HZX.out (by decide) (by decide)), below_setRow HLOW.out (by omega) _⟩
end Go.Proofs.YtnejjfglkindjaaGreatDoor.Slt
namespace Go.Proofs.YtnejjfglkindjaaGreatDoor.Slt
open Go.RowKit Go.Mir Go.Mir.Parts Dk Rol Rk Wr
open Frm (frame)
structure PQ (w : World) (a b : Nat) (T : List RF) (D : DD) (s : SS) (p : Option Addr) (c : Nat) (X : World) : Prop where
 r3 : X.heap[w.heap.size]? = some (.cells (rdA T D) 65 (0, 0))
 r4 : X.heap[w.heap.size + 1]? = some (.cells (rsA a b s p c) 74 (0, 0))
 r6 : X.heap[w.heap.size + 2]? = some (.cells zD 65 (0, 0))
 r7 : X.heap[w.heap.size + 3]? = some (.cells zS 74 (0, 0))
 rd : RDB X T D
 rb : RBs X p s.body.length c s.body
 low : Below w.heap.size w X
theorem PQ.next {w : World} {a b : Nat} {T : List RF} {D : DD} {s : SS} {p : Option Addr} {c : Nat} {X Y : World} (h : PQ w a b T D s p c X) (hb : Below X.heap.size X Y) : PQ w a b T D s p c Y :=
 ⟨Below.keepOld hb h.r3, Below.keepOld hb h.r4, Below.keepOld hb h.r6, Below.keepOld hb h.r7, h.rd.below hb, h.rb.below hb, h.low.trans (hb.mono h.low.size)⟩
theorem PQ.disk {w : World} {a b : Nat} {T T' : List RF} {D D' : DD} {s : SS} {p : Option Addr} {c : Nat} {X : World} (h : PQ w a b T D s p c X) (hr : RDB X T' D') : PQ w a b T' D' s p c (X.setRow w.heap.size (rdA T' D')) := by
 have hk : KR 0 X (X.setRow w.heap.size (rdA T' D')) := kr_turn (turns_setRow _ _ _) h.r3 (by decide) (by decide)
 exact ⟨setRow_heap _ _ _ _ _ _ h.r3, by rw [setRow_other _ _ _ _ (by omega)]; exact h.r4, by rw [setRow_other _ _ _ _ (by omega)]; exact h.r6, by rw [setRow_other _ _ _ _ (by omega)]; exact h.r7, hr.step hk, h.rb.step hk, below_setRow h.low (Nat.le_refl _) _⟩
theorem PQ.cell {w : World} {a b : Nat} {T : List RF} {D : DD} {s s' : SS} {p p' : Option Addr} {c c' : Nat} {X : World} (h : PQ w a b T D s p c X) (off : Nat) (v : Value) (hv : (rsA a b s p c).setIfInBounds off v = rsA a b s' p' c') (hb : RBs X p' s'.body.length c' s'.body) :
  PQ w a b T D s' p' c' (X.setCell ⟨w.heap.size + 1, off, none⟩ v) := by
 have e1 := Dk.cell_put (off := off) v h.r4
 have t1 : Turns (fun k => k = w.heap.size + 1) X (X.setCell ⟨w.heap.size + 1, off, none⟩ v) := Turns.setCell (S := fun k => k = w.heap.size + 1) (p := ⟨w.heap.size + 1, off, none⟩) (Turns.refl _ X) (fun _ => rfl) v
 have hk : KR 0 X _ := kr_turn t1 h.r4 (by decide) (by decide)
 rw [hv] at e1
 exact ⟨t1.keep h.r3 (by omega), e1, t1.keep h.r6 (by omega), t1.keep h.r7 (by omega), h.rd.step hk, hb.step hk, h.low.trans (t1.below h.low.size (fun k hk => by have hk : k = w.heap.size + 1 := hk; omega))⟩
def Pnd (d : DD) (s : SS) (a b : Nat) (x : List UInt8) (i : Nat) (L : List LA) (D : DD) : Prop :=
 putSD d s a b x = layD i L D ∧ putSE d s a b x = layE i L D ∧ putSS d s a b x = if layE i L D = 0 then ⟨(i : Int), s.turn + 1, x⟩ else s
theorem Pnd.ok {d : DD} {s : SS} {a b : Nat} {x : List UInt8} {i : Nat} {A : LA} {L : List LA} {D : DD} (h : Pnd d s a b x i (A :: L) D) (he : stpE D i A = 0) : Pnd d s a b x i L (stpD D i A) := by
 obtain ⟨e1, e2⟩ := lay_ok (r := L) he
 unfold Pnd at h ⊢
 rwa [e1, e2] at h
theorem Pnd.no {d : DD} {s : SS} {a b : Nat} {x : List UInt8} {i : Nat} {A : LA} {L : List LA} {D : DD} (h : Pnd d s a b x i (A :: L) D) (he : ¬ stpE D i A = 0) : putSD d s a b x = stpD D i A ∧ putSS d s a b x = s ∧ putSE d s a b x = stpE D i A := by
 obtain ⟨e1, e2⟩ := lay_no (r := L) he
 unfold Pnd at h
 rw [e1, e2, if_neg he] at h
 exact ⟨h.1, h.2.2, h.2.1⟩
theorem Pnd.end {d : DD} {s : SS} {a b : Nat} {x : List UInt8} {i : Nat} {D : DD} (h : Pnd d s a b x i [] D) : putSD d s a b x = D ∧ putSS d s a b x = ⟨(i : Int), s.turn + 1, x⟩ ∧ putSE d s a b x = 0 := ⟨h.1, h.2.2, h.2.1⟩
theorem fewfd {d : DD} {N i : Nat} (h : FewD d N) : (fD d i).steps.length ≤ N := by
 unfold fD
 cases hf : d.fs[i]? with
 | none => exact Nat.zero_le _
 | some f => exact h f (List.mem_of_getElem? hf)
theorem number8 (w : World) (n : Nat) (hn : n < 18446744073709551616) :
  Calls Tryz.prog 22 #[.int .u64 (n : Int), .int .i64 8] w fun e w' => ∃ p c, e = .returned (.slice p 8 c) ∧ w'.ownsRow w.heap.size 5 1 (.slice p 8 c) 8 (bytesV (be n 8)) ∧ Below w.heap.size w w' := by
 refine (Rdr.number_any w n 8 hn (by omega)).mono ?_
 rintro e w' ⟨p, c, he, ho, hb⟩
 rw [← Cod.be_numB _ _ (by omega), be_length] at he ho
 exact ⟨p, c, he, ho, hb⟩
end Go.Proofs.YtnejjfglkindjaaGreatDoor.Slt
namespace Go.Proofs.YtnejjfglkindjaaGreatDoor.Slt
open Go.RowKit Go.Mir Go.Mir.Parts
structure SOp where
 kind : Int
 n : Int
 m : Int
 b : List UInt8
def sopA (o : SOp) (pb : Option Addr) (cb : Nat) : Array Value := #[.int .i64 o.kind, .int .i64 o.n, .int .i64 o.m, .slice pb o.b.length cb]
structure SOpAt (w : World) (cs : List Value) (o : SOp) : Prop where
 form : ∃ pb cb, cs = (sopA o pb cb).toList ∧ Bs w pb o.b.length cb o.b
 kindB : -9223372036854775808 ≤ o.kind ∧ o.kind ≤ 9223372036854775807
 nB : -9223372036854775808 ≤ o.n ∧ o.n ≤ 9223372036854775807
 mB : -9223372036854775808 ≤ o.m ∧ o.m ≤ 9223372036854775807
theorem SOpAt.below {w w' : World} {cs : List Value} {o : SOp} (h : SOpAt w cs o) (hb : Below w.heap.size w w') : SOpAt w' cs o := by
 obtain ⟨pb, cb, h1, h2⟩ := h.form
 exact ⟨⟨pb, cb, h1, h2.below hb⟩, h.kindB, h.nB, h.mB⟩
structure SOps (w : World) (p : Option Addr) (n c : Nat) (os : List SOp) (rows : List (List Value)) : Prop where
 rs : Rs w p n c 4 rows
 count : os.length = n
 each : ∀ (i : Nat) r o, rows[i]? = some r → os[i]? = some o → SOpAt w r o
theorem SOps.below {w w' : World} {p : Option Addr} {n c : Nat} {os : List SOp} {rows : List (List Value)} (h : SOps w p n c os rows) (hb : Below w.heap.size w w') : SOps w' p n c os rows :=
 ⟨h.rs.below hb, h.count, fun i r o h1 h2 => (h.each i r o h1 h2).below hb⟩
theorem SOps.at {w : World} {b o n c : Nat} {os : List SOp} {rows : List (List Value)} (h : SOps w (some ⟨b, o, none⟩) n c os rows) (k : Nat) (hk : k < os.length) : ∃ pb cb, Bs w pb os[k].b.length cb os[k].b ∧ w.rangeAt b (o + k * 4) (sopA os[k] pb cb).toList := by
 have hkr : k < rows.length := by rw [h.rs.count, ← h.count]; exact hk
 obtain ⟨pb, cb, e, h1⟩ := (h.each k _ os[k] (List.getElem?_eq_getElem hkr) (List.getElem?_eq_getElem hk)).form
 refine ⟨pb, cb, h1, ?_⟩
 rw [← e]
 exact h.rs.row k hkr
end Go.Proofs.YtnejjfglkindjaaGreatDoor.Slt
namespace Go.Proofs.YtnejjfglkindjaaGreatDoor.Slt
open Go.RowKit Go.Mir Go.Mir.Parts Dk Rol Rk Wr
open Frm (frame one)
structure BodyOk (s : SS) : Prop where
 no : s.turn = 0 → s.body = []
 len : s.body.length ≤ 100000
theorem BodyOk.put {d : DD} {s : SS} {a b : Nat} {x : List UInt8} (h : BodyOk s) (hx : x.length ≤ 1000) : BodyOk (putSS d s a b x) := by
 unfold putSS
 split
 ·exact ⟨fun h0 => absurd h0 (by show ¬ s.turn + 1 = 0; omega), by show x.length ≤ _; omega⟩
 ·exact h
def S2 (base n : Nat) (X w' : World) : Prop := Turns (fun k => STy base X k ∨ k = n + 3 ∨ k = n + 4) X w'
theorem S2.row {base n : Nat} {a b : World} (h : S2 base n a b) {k : Nat} {M : Array Value} {t : TypeId} {fr : Nat × Nat} (hr : a.heap[k]? = some (.cells M t fr)) (h1 : t ≠ 105) (h2 : t ≠ 165) (h3 : t ≠ 133) (hk : k ≠ n + 3 ∧ k ≠ n + 4) : b.heap[k]? = some (.cells M t fr) :=
 Turns.keep h hr (fun hs => by
  rcases hs with ⟨_, M', t', fr', e, ht⟩ | e | e
  ·rw [hr] at e
   injection e with e1
   injection e1 with _ e2
   subst e2
   rcases ht with ht | ht | ht
   ·exact h1 ht
   ·exact h2 ht
   ·exact h3 ht
  ·exact hk.1 e
  ·exact hk.2 e)
theorem S2.set {base n g : Nat} {X Y : World} {A : Array Value} (h : S2 base n X Y) (hg : g = n + 3 ∨ g = n + 4) : S2 base n X (Y.setRow g A) :=
 ⟨h.os, h.tape, h.output, by have := h.size; simpa [World.setRow] using this, fun i hi hS => by
  rw [setRow_other _ _ _ _ (fun e => hS (.inr (by rw [e]; exact hg)))]
  exact h.block i hi hS⟩
end Go.Proofs.YtnejjfglkindjaaGreatDoor.Slt
namespace Go.Proofs.YtnejjfglkindjaaGreatDoor.Vlt
open Go.RowKit Go.Mir Dk Rol Wr Slt
open Frm (frame scan)
end Go.Proofs.YtnejjfglkindjaaGreatDoor.Vlt
