/- PARTS, JOINED: THE REFERENCE'S DISK: Append, Cut. Conditions: sizes that fit. THE REFERENCE'S DISK: Crash. Conditions: sizes that fit. THE CALLS OF A STATEMENT ON DISKS, as they lie in memory; are there not too many? Conditions: none. CALLS PLAYED, one behind the other. Conditions: none. PLAIN PART OF DiskKeeps: behind a sync nothing waits; a crash keeps the first bytes of what was put behind it. Conditions: none. THE WALKS OF THE WRITER: bytes one behind the other, room and a fault; each call as a plain function of what the writer held. Conditions: parts that stay as they are while the writer's own blocks turn. THE WALKS OF THE WRITER, on: put with any fault, Bytes, Id, Hint, Ids, Num, New, Len, Err, Done. Conditions: as in the first part. THE WALKS OF THE WRITER, on: Ids, Num. Conditions: as in the first part. LAYER 9: the document's example; numbers. Conditions: the laid cell of errors.errorType. CODECS: what is written by a writer, what a reader reads of it: plain parts, and both as they go on. Conditions: sizes that fit. -/
import Derived.Test.YtkacmgfehmjijaaGreatDoorOd1
import Derived.Test.YtkacmgfehmjijaaGreatDoorOd2
import Derived.Test.YtkacmgfehmjijaaGreatDoorOd3
import Derived.Test.YtkacmgfehmjijaaGreatDoorOd4
import Derived.Test.YtkacmgfehmjijaaGreatDoorOd5
import Derived.Test.YtkacmgfehmjijaaGreatDoorOd6
import Derived.Test.YtkacmgfehmjijaaGreatDoorProg
import Derived.BigQuiet
import Derived.Deep.QuietTactic
namespace Go.Proofs.YtkacmgfehmjijaaGreatDoor.Rk
open Go.RowKit Go.Mir Go.Mir.Parts Dk

set_option maxRecDepth 100000 in
set_option maxHeartbeats 1600000 in
theorem rcut_of (ts : List RF) (d d' : DD) (ev : Int) (i z : Int) (w : World) (h1 : ts.length = 3) (h2 : d.fs.length = 3)
    (HD : ∀ w1, Below w.heap.size w w1 → Calls Tryz.prog 40 #[.agg (rdA ts d), .int .i64 i, .agg #[.bool true, .int .i64 z, .slice none 0 0]] w1 (ROut d' ev w1)) :
    Calls Tryz.prog 31 #[.agg (rdA ts d), .int .i64 i, .int .i64 z] w (ROut d' ev w) := by
  have hz := zeroD
  obtain ⟨q1, q2, q3, q4⟩ := boxes w ts d
  have HROW := Lib.hid q1
  have HZX := Lib.hid q2
  have HLOW := Lib.hid q4
  clear q1 q2 q3 q4
  have HDO := Lib.hid HD
  have H1 := Lib.hid h1
  have H2 := Lib.hid h2
  clear HD h1 h2
  go_enter Tryz.func31, Tryz.ntmps31
  go_upto_region 1 with fail
  generalize (w.alloc (.cells (rdA ts d) 37)).alloc (.cells zD 37) = w2 at *
  go_wp2_with (refine wpList_load_row rfl 37 _ rfl w.heap.size rfl 37 (rdA ts d) (0, 0) _ HROW.out Tryz.underlying37 rfl (infoRD _ (rdA_size H1.out H2.out)) ?_)
  refine (HDO.out _ HLOW.out).mono ?_
  rintro e y1 ⟨TS, rfl, hrd, hy1⟩
  have HQ := Lib.hid hrd
  have hz1 := Below.keepOld hy1 HZX.out
  have hl1 := HLOW.out.trans (hy1.mono HLOW.out.size)
  clear HZX HLOW hy1 HDO hrd HROW
  have HZX := Lib.hid hz1
  have HLOW := Lib.hid hl1
  clear hz1 hl1
  go_wp2_with (refine wpList_store_row rfl 37 _ _ rfl (w.heap.size + 1) (rdA TS d') rfl rfl 37 zD HZX.out (infoRD _ (rdA_size HQ.out.n3 HQ.out.m3)) (by rw [rdA_size HQ.out.n3 HQ.out.m3]; rfl) (rdA_one HQ.out.n3 HQ.out.m3) ?_)
  have HS := Lib.hid (setRow_heap _ _ _ (rdA TS d') _ _ HZX.out)
  refine bodyPost_ret (results_cell_tmp2 rfl _ _ _ _ _ _ _ rfl HS.out Tryz.underlying37 rfl (infoRD _ (rdA_size HQ.out.n3 HQ.out.m3))) rfl ?_
  exact ⟨TS, rfl, HQ.out.step (KR.of_turn (turns_setRow _ _ _) HZX.out), below_setRow HLOW.out (by omega) _⟩
set_option maxRecDepth 100000 in
set_option maxHeartbeats 1600000 in
theorem rappend_of (ts : List RF) (d d' : DD) (ev : Int) (i : Int) (p : Option Addr) (B : List UInt8) (c : Nat) (w : World) (h1 : ts.length = 3) (h2 : d.fs.length = 3) (hb : Bs w p B.length c B) (hl : B.length ≤ 140737488355327)
    (HD : ∀ w1 q k, Below w.heap.size w w1 → (∀ y, KR 0 w1 y → Bs y q B.length k B) → Calls Tryz.prog 40 #[.agg (rdA ts d), .int .i64 i, .agg #[.bool false, .int .i64 0, .slice q B.length k]] w1 (ROut d' ev w1)) :
    Calls Tryz.prog 14 #[.agg (rdA ts d), .int .i64 i, .slice p B.length c] w (ROut d' ev w) := by
  have hz := zeroD
  obtain ⟨q1, q2, q3, q4⟩ := boxes w ts d
  have HROW := Lib.hid q1
  have HZX := Lib.hid q2
  have HLOW := Lib.hid q4
  clear q1 q2 q3 q4
  have HDO := Lib.hid HD
  have H1 := Lib.hid h1
  have H2 := Lib.hid h2
  have HBS := Lib.hid (hb.below HLOW.out)
  clear HD h1 h2 hb
  go_enter Tryz.func14, Tryz.ntmps14
  go_upto_region 1 with fail
  generalize (w.alloc (.cells (rdA ts d) 37)).alloc (.cells zD 37) = w2 at *
  have HLA : Hid (∀ w', Below w2.heap.size w2 w' → w'.rangeAt w.heap.size 0 (rdA ts d).toList) := fun w' hb => row_rangeR (Below.keepOld hb HROW.out)
  refine wp_region_eager_t (Below w2.heap.size w2) [0, 1, 3, 5, 7, 8] [(0, true), (1, true), (3, true), (2, false), (4, false), (5, true), (6, false), (7, true), (8, true)] [9, 10] (by kernel_rfl) (by kernel_rfl) ?_ (eagerTOpen rfl ?_)
  · exact below_drew1 _ _
  have hy0 : Below w2.heap.size w2 w2.drew := below_drew1 _ _
  repeat (first
    | ((with_reducible refine eagerTLoadAt 3 ?_); refine wpEagerT_load (by rfl) 37 _ rfl w.heap.size 0 rfl (rdA ts d) _ (fun w' hb => HLA.out w' hb) Tryz.underlying37 rfl (infoRD _ (rdA_size H1.out H2.out)) ?_; (try simp only [Act.put, List.setIfInBounds_toArray, List.set_cons_zero, List.set_cons_succ]); (try refine eagerTOpen rfl ?_))
    | (first | (apply wpEagerT_take; (· rfl); (· (intro w' hb'; go_simp; try with_reducible rfl)); (try simp only [Act.put, List.setIfInBounds_toArray, List.set_cons_zero, List.set_cons_succ]); (try refine eagerTOpen rfl ?_)) | (refine wpEagerT_skip (by rfl) ?_; (try simp only [Act.put, List.setIfInBounds_toArray, List.set_cons_zero, List.set_cons_succ]); (try refine eagerTOpen rfl ?_))))
  have hs0 : w2.heap.size ≤ w2.drew.heap.size := hy0.size
  generalize w2.drew = wd at *
  have hb0 := hy0.alloc hs0 (.cells #[] 5)
  have o1 : (wd.alloc (.cells #[] 5)).ownsRow w2.heap.size 5 1 (.slice (some ⟨wd.heap.size, 0, none⟩) 0 0) 0 [] := own_made0 wd _ _ _ _ rfl hs0
  (refine wpEagerT_op (by rfl) (fun K hK => ?_); go_simp; (skip); refine Shut.out hK _ _ (by assumption) ?_; clear hK K; (try simp only [Act.put, List.setIfInBounds_toArray, List.set_cons_zero, List.set_cons_succ]); (try refine eagerTOpen rfl ?_))
  have hs1 : w2.heap.size ≤ (wd.alloc (.cells #[] 5)).heap.size := hb0.size
  generalize wd.alloc (.cells #[] 5) = wa at *
  (refine wpEagerT_op (by rfl) (fun K hK => oper_of_list rfl ?_))
  refine wpList_append_nx rfl _ _ 31 rfl (base := w2.heap.size) Tryz.underlying31 info8b rfl (by omega) rfl o1 rfl (HBS.out.below hb0) (bytesV_one _) ⟨by omega, by omega⟩ hs1 ?_
  intro p2 c2 w5 o2 hg2 _ _
  rw [Nat.zero_add] at *
  rw [List.nil_append] at o2
  have hb2 : Below w2.heap.size w2 w5 := hb0.grown hg2 hs1 (fun i hi => (o1.lt i hi).1)
  refine only_end (Shut.out hK _ _ hb2 ?_)
  clear hK K
  (try simp only [Act.put, List.setIfInBounds_toArray, List.set_cons_zero, List.set_cons_succ])
  (try refine eagerTOpen rfl ?_)
  have HO2 := Lib.hid o2
  clear o1 o2 hg2
  repeat (first | (apply wpEagerT_take; (· rfl); (· (intro w' hb'; go_simp; try with_reducible rfl)); (try simp only [Act.put, List.setIfInBounds_toArray, List.set_cons_zero, List.set_cons_succ]); (try refine eagerTOpen rfl ?_)) | (refine wpEagerT_skip (by rfl) ?_; (try simp only [Act.put, List.setIfInBounds_toArray, List.set_cons_zero, List.set_cons_succ]); (try refine eagerTOpen rfl ?_)))
  (refine wpEagerT_op (by rfl) (fun K hK => ?_); go_simp; (refine (HDO.out _ p2 c2 (HLOW.out.trans (hb2.mono HLOW.out.size)) (fun y hy => Cut.own_bs (hy.own HO2.out (fun h => h.1 rfl)))).mono ?_; rintro e y1 ⟨TS, rfl, hrd, hb⟩; have hy1 := hb2.trans (hb.mono hb2.size); clear hb); refine Shut.out hK _ _ (by assumption) ?_; clear hK K; (try simp only [Act.put, List.setIfInBounds_toArray, List.set_cons_zero, List.set_cons_succ]); (try refine eagerTOpen rfl ?_))
  have HQ := Lib.hid hrd
  clear hrd
  repeat (first | (apply wpEagerT_take; (· rfl); (· (intro w' hb'; go_simp; try with_reducible rfl)); (try simp only [Act.put, List.setIfInBounds_toArray, List.set_cons_zero, List.set_cons_succ]); (try refine eagerTOpen rfl ?_)) | (refine wpEagerT_skip (by rfl) ?_; (try simp only [Act.put, List.setIfInBounds_toArray, List.set_cons_zero, List.set_cons_succ]); (try refine eagerTOpen rfl ?_)))
  refine eagerTEnd (tail2 rfl rfl ?_)
  have hz1 := Below.keepOld hy1 HZX.out
  have hl1 := HLOW.out.trans (hy1.mono HLOW.out.size)
  clear HZX HLOW HLA hy0 hy1 HDO hb0 hb2 HO2 HBS
  have HZX := Lib.hid hz1
  have HLOW := Lib.hid hl1
  clear hz1 hl1
  skip
  -- the callee's disk is the result: world y, TS, d'
  go_wp2_with (refine wpList_store_row rfl 37 _ _ rfl (w.heap.size + 1) (rdA TS d') rfl rfl 37 zD HZX.out (infoRD _ (rdA_size HQ.out.n3 HQ.out.m3)) (by rw [rdA_size HQ.out.n3 HQ.out.m3]; rfl) (rdA_one HQ.out.n3 HQ.out.m3) ?_)
  refine noPanic_end ?_
  go_wp2_with fail
  have HS := Lib.hid (setRow_heap _ _ _ (rdA TS d') _ _ HZX.out)
  refine bodyPost_ret (results_cell_tmp2 rfl _ _ _ _ _ _ _ rfl HS.out Tryz.underlying37 rfl (infoRD _ (rdA_size HQ.out.n3 HQ.out.m3))) rfl ?_
  exact ⟨TS, rfl, HQ.out.step (KR.of_turn (turns_setRow _ _ _) HZX.out), below_setRow HLOW.out (by omega) _⟩
end Go.Proofs.YtkacmgfehmjijaaGreatDoor.Rk

namespace Go.Proofs.YtkacmgfehmjijaaGreatDoor.Rk
open Go.RowKit Go.Mir Go.Mir.Parts Dk

theorem rcr_neg {r A : Int} (h1 : -A < r) (h2 : r < A) (h : r < 0) : (r + A).tmod A = r + A := Int.tmod_eq_of_lt (by omega) (by omega)
theorem rcr_pos {r A : Int} (h2 : r < A) (h : ¬ r < 0) : (r + A).tmod A = r := by
  rw [Int.tmod_eq_emod_of_nonneg (by omega), Int.add_emod_right, Int.emod_eq_of_lt (by omega) h2]
theorem crashM_end {us : List Int} {d : DD} (h : d.fs.length = 3) : (⟨(crashM us d 3).fs, d.room, 0, false⟩ : DD) = crashD us d := by
  unfold crashM crashD
  rw [List.take_of_length_le (by omega), List.drop_eq_nil_of_le (by omega), List.append_nil]
theorem settle_set (f : FD) (u : Nat) {L : List UInt8} (h : someU f.kept f.steps u = L) : f.settle u = ⟨L, L, [], L.length⟩ := by unfold FD.settle; rw [h]
def CrOx (D : DD) (w : World) (e : Ending) (w' : World) : Prop := ∃ ts, e = .returned (.agg (rdA ts D)) ∧ RDB w' ts D ∧ Below w.heap.size w w'
set_option maxRecDepth 100000 in
set_option maxHeartbeats 12800000 in
theorem rcrash_any (ts : List RF) (d : DD) (us : List Int) (p : Option Addr) (c : Nat) (w : World) (h : RDB w ts d) (hN : Ns w p us.length c us) :
    Calls Tryz.prog 18 #[.agg (rdA ts d), .slice p us.length c] w (CrOx (crashD us d) w) := by
  have hz := zeroD
  obtain ⟨q1, q2, q3, q4⟩ := boxes w ts d
  have HQ0 : Hid (RQ w.heap.size w.heap.size ts d ((w.alloc (.cells (rdA ts d) 37)).alloc (.cells zD 37))) := RQ.of h q4 (Nat.le_refl _) q1
  have HZ0 := Lib.hid q2
  have HL0 := Lib.hid q4
  have HM3 := Lib.hid h.m3
  have HN := Lib.hid hN
  have hle := hN.sl.le
  have hmax := hN.sl.max
  clear q1 q2 q3 q4 h hN
  go_enter Tryz.func18, Tryz.ntmps18
  go_upto_region 1 with fail
  generalize (w.alloc (.cells (rdA ts d) 37)).alloc (.cells zD 37) = w2 at *
  go_wp2_with fail
  go_loopw [5, 6, 7] (fun i n a wr => ∃ k : Nat, k ≤ 3 ∧ i = .int .i64 k ∧ ∃ tk, RQ w.heap.size w.heap.size tk (crashM us d k) wr ∧ wr.heap[w.heap.size + 1]? = some (.cells zD 37 (0, 0)) ∧ Below w.heap.size w wr) (fun i _ _ _ => 3 - (intOf i).toNat)
  case atStart => exact ⟨0, by omega, rfl, ts, by rw [crashM_zero]; exact HQ0.out, HZ0.out, HL0.out⟩
  case round =>
    obtain ⟨k, hk, rfl, tk, hqr, hzr, hlr⟩ := hrel
    have HQX := Lib.hid hqr
    have HZX := Lib.hid hzr
    have HLX := Lib.hid hlr
    clear hqr hzr hlr HQ0 HZ0 HL0
    by_cases hlt : k < 3
    · have hd : decide ((k : Int) < 3) = true := decide_eq_true (by omega)
      have hd2 : decide (k < 3) = true := decide_eq_true (by omega)
      have hk1 : (k : Int) < 3 := by omega
      have hk0 : (0 : Int) ≤ (k : Int) := by omega
      have HKL : Hid (k < (crashM us d k).fs.length) := by show _ < _; rw [HQX.out.m3]; exact hlt
      have HFE : Hid ((crashM us d k).fs[k]'HKL.out = d.fs[k]'(by have := HM3.out; omega)) := crashM_get HM3.out k hlt HKL.out
      have HSP := Lib.hid (crashM_step (us := us) HM3.out k hlt)
      have hkt : k < tk.length := by rw [HQX.out.n3]; exact hlt
      have HT : Hid (tk[k]? = some (tk[k]'hkt)) := List.getElem?_eq_getElem hkt
      have HF : Hid ((crashM us d k).fs[k]? = some (d.fs[k]'(by have := HM3.out; omega))) := by show _ = _; rw [← HFE.out]; exact List.getElem?_eq_getElem HKL.out
      have HCU : Hid (crU us k (d.fs[k]'(by have := HM3.out; omega)) ≤ unitsAll (d.fs[k]'(by have := HM3.out; omega)).steps) := crU_le
      generalize hff : d.fs[k]'(by have := HM3.out; omega) = f at *
      generalize tk[k]'hkt = t at *
      clear hff hkt
      have HRT := Lib.hid (HQX.out.each k t f HT.out HF.out).1
      have HNB : Hid (f.need ≤ 1000000) := by
        have h1 := usedL_mem HKL.out
        have h2 := HQX.out.used
        rw [HFE.out] at h1
        show _ ≤ _
        omega
      have HUB : Hid (unitsAll f.steps ≤ 288230376151711744) := HRT.out.now.un
      by_cases hku : k < us.length
      · have e0 : decide ((k : Int) < (us.length : Int)) = true := decide_eq_true (by omega)
        have e1 : decide (k < us.length) = true := decide_eq_true hku
        obtain ⟨g, o, rfl⟩ := HN.out.sl.addr (by omega) (by omega)
        have hcx : wr.cell? ⟨g, o + k, none⟩ = some (.int .i64 (us[k]'hku)) := (HN.out.sl.below HLX.out).at (by simp [hku])
        have HXE : Hid (us[k]? = some (us[k]'hku)) := List.getElem?_eq_getElem hku
        have HXB := Lib.hid (HN.out.bd _ (List.getElem_mem hku))
        generalize us[k] = x at *
        have HCE : Hid (crU us k f = ((x.tmod ((unitsAll f.steps + 1 : Nat) : Int) + ((unitsAll f.steps + 1 : Nat) : Int)).tmod ((unitsAll f.steps + 1 : Nat) : Int)).toNat) := by show _ = _; unfold crU; rw [HXE.out]
        have HU := Lib.hid (runits_any t f wr HRT.out.now)
        have HRG := Lib.hid (rd_range HQX.out.n3 HQX.out.m3 HQX.out.row k HT.out HF.out)
        generalize hua : unitsAll f.steps = ua at *
        obtain ⟨A, hA⟩ : ∃ A, A = ua + 1 := ⟨_, rfl⟩
        have hA0 : 1 ≤ A := by omega
        have hAB : A ≤ 288230376151711745 := by have := HUB.out; omega
        rw [← hA] at HCE
        have hua1 : IntKind.i64.wrap ((ua : Int) + 1) = (A : Int) := by rw [show ((ua : Int) + 1) = (A : Int) by omega]; exact IntWalk.i64_in _ (by omega)
        have hua2 : (ua : Int) + 1 = (A : Int) := by omega
        obtain ⟨r, hr⟩ : ∃ r, x.tmod (A : Int) = r := ⟨_, rfl⟩
        have hr1 : -(A : Int) < r ∧ r < (A : Int) := by
          rw [← hr]
          exact ⟨Int.lt_tmod_of_pos x (by omega), Int.tmod_lt_of_pos x (by omega)⟩
        have hne0 : ((A : Int) == 0) = false := by rw [beq_eq_false_iff_ne]; omega
        have hne1 : ¬ (A : Int) = 0 := by omega
        have hne2 : ¬ A = 0 := by omega
        have hwr : IntKind.i64.wrap r = r := IntWalk.i64_in _ (by omega)
        have hcr : (if r < 0 then r + (A : Int) else r) = ((crU us k f : Nat) : Int) := by
          have h0 := HCE.out
          rw [hr] at h0
          have h1 : 0 ≤ (r + (A : Int)).tmod (A : Int) := Int.tmod_nonneg _ (by omega)
          split
          · rename_i hn; rw [rcr_neg hr1.1 hr1.2 hn] at h0 h1; omega
          · rename_i hn; rw [rcr_pos hr1.2 hn] at h0 h1; omega
        obtain ⟨mm, hmm⟩ : ∃ mm, mm = crU us k f := ⟨_, rfl⟩
        have HME := Lib.hid hmm
        rw [← hmm] at hcr
        have hmb : mm ≤ 1152921504606846976 := by have := HCU.out; have := HUB.out; omega
        clear hA hmm
        go_upto_region 6 with fail
        go_wp2_with ((with_reducible refine wpAt 19 ?_); refine wpList_load_mid rfl 34 _ rfl w.heap.size (k * 2) rfl (fA t f).toList _ HRG.out Tryz.underlying34 rfl (infoFi (fA t f) rfl) ?_)
        try rw [Array.toArray_toList]
        refine (HU.out).mono ?_
        rintro e w3 ⟨rfl, hb3⟩
        have hcx3 : w3.cell? ⟨g, o + k, none⟩ = some (.int .i64 x) := cell_below hcx hb3
        have hq3 := HQX.out.next hb3
        have hz3 := Below.keepOld hb3 HZX.out
        have hl3 := HLX.out.trans (hb3.mono HLX.out.size)
        clear HQX HZX HLX HRG HU hb3 hcx
        have HQX := Lib.hid hq3
        have HZX := Lib.hid hz3
        have HLX := Lib.hid hl3
        clear hq3 hz3 hl3
        by_cases hneg : r < 0
        · rw [if_pos hneg] at hcr
          have e2 : decide (r < 0) = true := decide_eq_true hneg
          have hws : IntKind.i64.wrap (r + (A : Int)) = (mm : Int) := by rw [IntWalk.i64_in _ (by omega)]; exact hcr
          go_upto_region 10 with fail
          skip
          -- the file k is what it keeps; world w3: HQX (RQ), HZX, HLX (Below w w3), HME : mm = crU us k f
          have hrb := (HQX.out.each k t f HT.out HF.out).1
          have HRG := Lib.hid (rd_range HQX.out.n3 HQX.out.m3 HQX.out.row k HT.out HF.out)
          have HDN := Lib.hid (rdone_any t f mm w3 hrb.now HNB.out (by omega))
          obtain ⟨L, hL⟩ : ∃ L, someU f.kept f.steps mm = L := ⟨_, rfl⟩
          rw [hL] at HDN
          obtain ⟨FN, hFN⟩ : ∃ FN, f.settle mm = FN := ⟨_, rfl⟩
          have hset : FN = ⟨L, L, [], L.length⟩ := by rw [← hFN]; exact settle_set f mm hL
          have HNS : Hid (Nd FN) := by have := nd_settle f mm; rw [hFN] at this; exact this
          have HST := Lib.hid hset
          have HUS : Hid (usedL (setF (crashM us d k) k FN).fs ≤ 1000000) := by
            have h1 := used_set (d := crashM us d k) HKL.out FN
            rw [HFE.out] at h1
            have h2 := HQX.out.used
            have h3 : FN.need = L.length := by rw [hset]
            have h4 := hrb.now.ok.all mm
            rw [hL] at h4
            show _ ≤ _
            omega
          have HSF : Hid (setF (crashM us d k) k FN = crashM us d (k + 1)) := by
            show _ = _
            rw [← HSP.out, ← hFN, HME.out]
          clear hrb hL hset hFN
          go_wp2_with ((with_reducible refine wpAt 37 ?_); refine wpList_load_mid rfl 34 _ rfl w.heap.size (k * 2) rfl (fA t f).toList _ HRG.out Tryz.underlying34 rfl (infoFi (fA t f) rfl) ?_)
          try rw [Array.toArray_toList]
          refine HDN.out.mono ?_
          rintro e w5 ⟨p5, c5, rfl, ho5, hb5⟩
          have hq5 := HQX.out.next hb5
          have hfr : Rb w.heap.size w5 ⟨p5, c5, none, 0⟩ FN := Rb.fresh (f := FN) ho5 HST.out
          obtain ⟨TN, hTN⟩ : ∃ TN : RF, (⟨p5, c5, none, 0⟩ : RF) = TN := ⟨_, rfl⟩
          have hfa : fA TN FN = #[.slice p5 L.length c5, .slice none 0 0] := by rw [← hTN, HST.out]; rfl
          rw [hTN] at hfr
          obtain ⟨hq6, hk6⟩ := hq5.file k hlt TN FN hfr HNS.out HUS.out
          rw [hfa] at hq6 hk6
          rw [HSF.out] at hq6
          have HTH := Lib.hid (hq5.there k hlt)
          have HQ6 := Lib.hid hq6
          have HL6 := Lib.hid (HLX.out.trans (hb5.mono HLX.out.size))
          have HL7 : Hid (Below w.heap.size w (w5.setCells w.heap.size (k * 2) #[.slice p5 L.length c5, .slice none 0 0].toList)) := Lib.hid (HL6.out.trans (Turns.below (turns_setCells (S := fun k => k = w.heap.size) rfl _ _ _ (Turns.refl _ w5)) HL6.out.size (fun _ e => by omega)))
          have hd6 : (w5.setCells w.heap.size (k * 2) #[.slice p5 L.length c5, .slice none 0 0].toList).heap[w.heap.size + 1]? = some (.cells zD 37 (0, 0)) := (turns_setCells (S := fun k => k = w.heap.size) rfl _ _ _ (Turns.refl _ w5)).keep (Below.keepOld hb5 HZX.out) (by omega)
          have HZ7 := Lib.hid hd6
          clear HQX HZX HLX HDN ho5 hb5 hq5 hfr hq6 hk6 hd6 HRG HUS HNS HST HL6 hTN hfa HSF
          go_wp2_with (refine wpList_store_mid rfl 34 _ _ rfl w.heap.size (k * 2) #[.slice p5 L.length c5, .slice none 0 0] rfl rfl HTH.out (infoFi _ rfl) (by simp [Value.oneCell']) ?_)
          go_roundw
          case rel => exact ⟨k + 1, by omega, by go_num, _, HQ6.out, HZ7.out, HL7.out⟩
          case measure => simp [intOf]; omega
        · rw [if_neg hneg] at hcr
          have e2 : decide (r < 0) = false := decide_eq_false hneg
          subst hcr
          go_upto_region 10 with fail
          skip
          -- the file k is what it keeps; world w3: HQX (RQ), HZX, HLX (Below w w3), HME : mm = crU us k f
          have hrb := (HQX.out.each k t f HT.out HF.out).1
          have HRG := Lib.hid (rd_range HQX.out.n3 HQX.out.m3 HQX.out.row k HT.out HF.out)
          have HDN := Lib.hid (rdone_any t f mm w3 hrb.now HNB.out (by omega))
          obtain ⟨L, hL⟩ : ∃ L, someU f.kept f.steps mm = L := ⟨_, rfl⟩
          rw [hL] at HDN
          obtain ⟨FN, hFN⟩ : ∃ FN, f.settle mm = FN := ⟨_, rfl⟩
          have hset : FN = ⟨L, L, [], L.length⟩ := by rw [← hFN]; exact settle_set f mm hL
          have HNS : Hid (Nd FN) := by have := nd_settle f mm; rw [hFN] at this; exact this
          have HST := Lib.hid hset
          have HUS : Hid (usedL (setF (crashM us d k) k FN).fs ≤ 1000000) := by
            have h1 := used_set (d := crashM us d k) HKL.out FN
            rw [HFE.out] at h1
            have h2 := HQX.out.used
            have h3 : FN.need = L.length := by rw [hset]
            have h4 := hrb.now.ok.all mm
            rw [hL] at h4
            show _ ≤ _
            omega
          have HSF : Hid (setF (crashM us d k) k FN = crashM us d (k + 1)) := by
            show _ = _
            rw [← HSP.out, ← hFN, HME.out]
          clear hrb hL hset hFN
          go_wp2_with ((with_reducible refine wpAt 37 ?_); refine wpList_load_mid rfl 34 _ rfl w.heap.size (k * 2) rfl (fA t f).toList _ HRG.out Tryz.underlying34 rfl (infoFi (fA t f) rfl) ?_)
          try rw [Array.toArray_toList]
          refine HDN.out.mono ?_
          rintro e w5 ⟨p5, c5, rfl, ho5, hb5⟩
          have hq5 := HQX.out.next hb5
          have hfr : Rb w.heap.size w5 ⟨p5, c5, none, 0⟩ FN := Rb.fresh (f := FN) ho5 HST.out
          obtain ⟨TN, hTN⟩ : ∃ TN : RF, (⟨p5, c5, none, 0⟩ : RF) = TN := ⟨_, rfl⟩
          have hfa : fA TN FN = #[.slice p5 L.length c5, .slice none 0 0] := by rw [← hTN, HST.out]; rfl
          rw [hTN] at hfr
          obtain ⟨hq6, hk6⟩ := hq5.file k hlt TN FN hfr HNS.out HUS.out
          rw [hfa] at hq6 hk6
          rw [HSF.out] at hq6
          have HTH := Lib.hid (hq5.there k hlt)
          have HQ6 := Lib.hid hq6
          have HL6 := Lib.hid (HLX.out.trans (hb5.mono HLX.out.size))
          have HL7 : Hid (Below w.heap.size w (w5.setCells w.heap.size (k * 2) #[.slice p5 L.length c5, .slice none 0 0].toList)) := Lib.hid (HL6.out.trans (Turns.below (turns_setCells (S := fun k => k = w.heap.size) rfl _ _ _ (Turns.refl _ w5)) HL6.out.size (fun _ e => by omega)))
          have hd6 : (w5.setCells w.heap.size (k * 2) #[.slice p5 L.length c5, .slice none 0 0].toList).heap[w.heap.size + 1]? = some (.cells zD 37 (0, 0)) := (turns_setCells (S := fun k => k = w.heap.size) rfl _ _ _ (Turns.refl _ w5)).keep (Below.keepOld hb5 HZX.out) (by omega)
          have HZ7 := Lib.hid hd6
          clear HQX HZX HLX HDN ho5 hb5 hq5 hfr hq6 hk6 hd6 HRG HUS HNS HST HL6 hTN hfa HSF
          go_wp2_with (refine wpList_store_mid rfl 34 _ _ rfl w.heap.size (k * 2) #[.slice p5 L.length c5, .slice none 0 0] rfl rfl HTH.out (infoFi _ rfl) (by simp [Value.oneCell']) ?_)
          go_roundw
          case rel => exact ⟨k + 1, by omega, by go_num, _, HQ6.out, HZ7.out, HL7.out⟩
          case measure => simp [intOf]; omega
      · have e0 : decide ((k : Int) < (us.length : Int)) = false := decide_eq_false (by omega)
        have e1 : decide (k < us.length) = false := decide_eq_false hku
        have HME : Hid (0 = crU us k f) := by show _ = _; unfold crU; rw [List.getElem?_eq_none (by omega)]
        go_upto_region 10 with fail
        skip
        -- the file k is what it keeps; world wr: HQX (RQ), HZX, HLX (Below w wr), HME : mm = crU us k f
        have hrb := (HQX.out.each k t f HT.out HF.out).1
        have HRG := Lib.hid (rd_range HQX.out.n3 HQX.out.m3 HQX.out.row k HT.out HF.out)
        have HDN := Lib.hid (rdone_any t f 0 wr hrb.now HNB.out (by omega))
        obtain ⟨L, hL⟩ : ∃ L, someU f.kept f.steps 0 = L := ⟨_, rfl⟩
        rw [hL] at HDN
        obtain ⟨FN, hFN⟩ : ∃ FN, f.settle 0 = FN := ⟨_, rfl⟩
        have hset : FN = ⟨L, L, [], L.length⟩ := by rw [← hFN]; exact settle_set f 0 hL
        have HNS : Hid (Nd FN) := by have := nd_settle f 0; rw [hFN] at this; exact this
        have HST := Lib.hid hset
        have HUS : Hid (usedL (setF (crashM us d k) k FN).fs ≤ 1000000) := by
          have h1 := used_set (d := crashM us d k) HKL.out FN
          rw [HFE.out] at h1
          have h2 := HQX.out.used
          have h3 : FN.need = L.length := by rw [hset]
          have h4 := hrb.now.ok.all 0
          rw [hL] at h4
          show _ ≤ _
          omega
        have HSF : Hid (setF (crashM us d k) k FN = crashM us d (k + 1)) := by
          show _ = _
          rw [← HSP.out, ← hFN, HME.out]
        clear hrb hL hset hFN
        go_wp2_with ((with_reducible refine wpAt 37 ?_); refine wpList_load_mid rfl 34 _ rfl w.heap.size (k * 2) rfl (fA t f).toList _ HRG.out Tryz.underlying34 rfl (infoFi (fA t f) rfl) ?_)
        try rw [Array.toArray_toList]
        refine HDN.out.mono ?_
        rintro e w5 ⟨p5, c5, rfl, ho5, hb5⟩
        have hq5 := HQX.out.next hb5
        have hfr : Rb w.heap.size w5 ⟨p5, c5, none, 0⟩ FN := Rb.fresh (f := FN) ho5 HST.out
        obtain ⟨TN, hTN⟩ : ∃ TN : RF, (⟨p5, c5, none, 0⟩ : RF) = TN := ⟨_, rfl⟩
        have hfa : fA TN FN = #[.slice p5 L.length c5, .slice none 0 0] := by rw [← hTN, HST.out]; rfl
        rw [hTN] at hfr
        obtain ⟨hq6, hk6⟩ := hq5.file k hlt TN FN hfr HNS.out HUS.out
        rw [hfa] at hq6 hk6
        rw [HSF.out] at hq6
        have HTH := Lib.hid (hq5.there k hlt)
        have HQ6 := Lib.hid hq6
        have HL6 := Lib.hid (HLX.out.trans (hb5.mono HLX.out.size))
        have HL7 : Hid (Below w.heap.size w (w5.setCells w.heap.size (k * 2) #[.slice p5 L.length c5, .slice none 0 0].toList)) := Lib.hid (HL6.out.trans (Turns.below (turns_setCells (S := fun k => k = w.heap.size) rfl _ _ _ (Turns.refl _ w5)) HL6.out.size (fun _ e => by omega)))
        have hd6 : (w5.setCells w.heap.size (k * 2) #[.slice p5 L.length c5, .slice none 0 0].toList).heap[w.heap.size + 1]? = some (.cells zD 37 (0, 0)) := (turns_setCells (S := fun k => k = w.heap.size) rfl _ _ _ (Turns.refl _ w5)).keep (Below.keepOld hb5 HZX.out) (by omega)
        have HZ7 := Lib.hid hd6
        clear HQX HZX HLX HDN ho5 hb5 hq5 hfr hq6 hk6 hd6 HRG HUS HNS HST HL6 hTN hfa HSF
        go_wp2_with (refine wpList_store_mid rfl 34 _ _ rfl w.heap.size (k * 2) #[.slice p5 L.length c5, .slice none 0 0] rfl rfl HTH.out (infoFi _ rfl) (by simp [Value.oneCell']) ?_)
        go_roundw
        case rel => exact ⟨k + 1, by omega, by go_num, _, HQ6.out, HZ7.out, HL7.out⟩
        case measure => simp [intOf]; omega
    · obtain rfl : k = 3 := by omega
      have hd : decide ((3 : Int) < (3 : Int)) = false := by decide
      obtain ⟨_, hc7, hc8, hfz⟩ := HQX.out.cells
      go_upto_region 11 with fail
      have hq4 : RQ w.heap.size w.heap.size tk ⟨(crashM us d 3).fs, d.room, 0, (crashM us d 3).down⟩ (wr.setCell ⟨w.heap.size, 7, none⟩ (.int .i64 0)) := (HQX.out.fuse 0 (by omega)).1
      have hl4 : Below w.heap.size w (wr.setCell ⟨w.heap.size, 7, none⟩ (.int .i64 0)) := HLX.out.trans (Turns.below ((Turns.refl (fun k => k = w.heap.size) wr).setCell (p := ⟨w.heap.size, 7, none⟩) (fun _ => rfl) _) HLX.out.size (fun _ e => by omega))
      have hz4 : (wr.setCell ⟨w.heap.size, 7, none⟩ (.int .i64 0)).heap[w.heap.size + 1]? = some (.cells zD 37 (0, 0)) := ((Turns.refl (fun k => k = w.heap.size) wr).setCell (p := ⟨w.heap.size, 7, none⟩) (fun _ => rfl) _).keep HZX.out (by omega)
      go_upto_region 12 with fail
      clear hc7 hc8 hfz HQX HZX HLX
      generalize wr.setCell ⟨w.heap.size, 7, none⟩ (.int .i64 0) = w4 at *
      obtain ⟨_, _, hc8, hfz⟩ := hq4.cells
      have hq5 := (hq4.down false).1
      have hl5 : Below w.heap.size w (w4.setCell ⟨w.heap.size, 8, none⟩ (.bool false)) := hl4.trans (Turns.below ((Turns.refl (fun k => k = w.heap.size) w4).setCell (p := ⟨w.heap.size, 8, none⟩) (fun _ => rfl) _) hl4.size (fun _ e => by omega))
      have hz5 : (w4.setCell ⟨w.heap.size, 8, none⟩ (.bool false)).heap[w.heap.size + 1]? = some (.cells zD 37 (0, 0)) := ((Turns.refl (fun k => k = w.heap.size) w4).setCell (p := ⟨w.heap.size, 8, none⟩) (fun _ => rfl) _).keep hz4 (by omega)
      have HQ5 := Lib.hid hq5
      have HL5 := Lib.hid hl5
      have HZ5 := Lib.hid hz5
      clear hq4 hl4 hz4 hq5 hl5 hz5
      go_upto_region 13 with fail
      clear hc8 hfz
      generalize w4.setCell ⟨w.heap.size, 8, none⟩ (.bool false) = w5 at *
      have hq : RQ w.heap.size w.heap.size tk (crashD us d) w5 := by rw [← crashM_end HM3.out]; exact HQ5.out
      have HQ := Lib.hid hq
      clear hq HQ5
      generalize crashD us d = DC at *
      have HCO : Hid (∀ w', RDB w' tk DC → Below w.heap.size w w' → CrOx DC w (.returned (.agg (rdA tk DC))) w') := fun w' a b => ⟨tk, rfl, a, b⟩
      go_wp2_with (first
        | refine wpList_load_row rfl 37 _ rfl w.heap.size rfl 37 (rdA tk DC) (0, 0) _ HQ.out.row Tryz.underlying37 rfl (infoRD _ (rdA_size HQ.out.n3 HQ.out.m3)) ?_
        | refine wpList_store_row rfl 37 _ _ rfl (w.heap.size + 1) (rdA tk DC) rfl rfl 37 zD HZ5.out (infoRD _ (rdA_size HQ.out.n3 HQ.out.m3)) (by rw [rdA_size HQ.out.n3 HQ.out.m3]; rfl) (rdA_one HQ.out.n3 HQ.out.m3) ?_)
      have HS := Lib.hid (setRow_heap _ _ _ (rdA tk DC) _ _ HZ5.out)
      refine bodyPost_ret (results_cell_row rfl _ _ _ _ _ _ _ rfl HS.out Tryz.underlying37 rfl (infoRD _ (rdA_size HQ.out.n3 HQ.out.m3))) rfl ?_
      exact HCO.out _ (HQ.out.done HZ5.out (by omega)) (below_setRow HL5.out (by omega) _)
end Go.Proofs.YtkacmgfehmjijaaGreatDoor.Rk

namespace Go.Proofs.YtkacmgfehmjijaaGreatDoor.Dk
open Go.RowKit Go.Mir Go.Mir.Parts

/-- what a call of the statement is -/
structure DOp where
  kind : Int
  file : Int
  n : Int
  b : List UInt8
  us : List Int
def dopA (o : DOp) (pb : Option Addr) (cb : Nat) (pu : Option Addr) (cu : Nat) : Array Value := #[.int .i64 o.kind, .int .i64 o.file, .int .i64 o.n, .slice pb o.b.length cb, .slice pu o.us.length cu]
structure DOpAt (w : World) (cs : List Value) (o : DOp) : Prop where
  form : ∃ pb cb pu cu, cs = (dopA o pb cb pu cu).toList ∧ Bs w pb o.b.length cb o.b ∧ Ns w pu o.us.length cu o.us
  kindB : -9223372036854775808 ≤ o.kind ∧ o.kind ≤ 9223372036854775807
  fileB : -9223372036854775808 ≤ o.file ∧ o.file ≤ 9223372036854775807
  nB : -9223372036854775808 ≤ o.n ∧ o.n ≤ 9223372036854775807
theorem Ns.below {w w' : World} {p : Option Addr} {n c : Nat} {us : List Int} (h : Ns w p n c us) (hb : Below w.heap.size w w') : Ns w' p n c us := ⟨h.sl.below hb, h.count, h.bd⟩
theorem DOpAt.below {w w' : World} {cs : List Value} {o : DOp} (h : DOpAt w cs o) (hb : Below w.heap.size w w') : DOpAt w' cs o := by
  obtain ⟨pb, cb, pu, cu, h1, h2, h3⟩ := h.form
  exact ⟨⟨pb, cb, pu, cu, h1, h2.below hb, h3.below hb⟩, h.kindB, h.fileB, h.nB⟩
structure DOps (w : World) (p : Option Addr) (n c : Nat) (os : List DOp) (rows : List (List Value)) : Prop where
  rs : Rs w p n c 5 rows
  count : os.length = n
  each : ∀ (i : Nat) r o, rows[i]? = some r → os[i]? = some o → DOpAt w r o
theorem DOps.below {w w' : World} {p : Option Addr} {n c : Nat} {os : List DOp} {rows : List (List Value)} (h : DOps w p n c os rows) (hb : Below w.heap.size w w') : DOps w' p n c os rows :=
  ⟨h.rs.below hb, h.count, fun i r o h1 h2 => (h.each i r o h1 h2).below hb⟩
theorem DOps.at {w : World} {b o n c : Nat} {os : List DOp} {rows : List (List Value)} (h : DOps w (some ⟨b, o, none⟩) n c os rows) (k : Nat) (hk : k < os.length) : ∃ pb cb pu cu, Bs w pb os[k].b.length cb os[k].b ∧ Ns w pu os[k].us.length cu os[k].us ∧ w.rangeAt b (o + k * 5) (dopA os[k] pb cb pu cu).toList := by
  have hkr : k < rows.length := by rw [h.rs.count, ← h.count]; exact hk
  obtain ⟨pb, cb, pu, cu, e, h1, h2⟩ := (h.each k _ os[k] (List.getElem?_eq_getElem hkr) (List.getElem?_eq_getElem hk)).form
  refine ⟨pb, cb, pu, cu, h1, h2, ?_⟩
  rw [← e]
  exact h.rs.row k hkr
theorem dopA_cell {w : World} {b : Nat} {o : DOp} {pb : Option Addr} {cb : Nat} {pu : Option Addr} {cu : Nat} {t : TypeId} {fr : Nat × Nat} (h : w.heap[b]? = some (.cells (dopA o pb cb pu cu) t fr)) :
    w.cell? ⟨b, 0, none⟩ = some (.int .i64 o.kind) ∧ w.cell? ⟨b, 1, none⟩ = some (.int .i64 o.file) ∧ w.cell? ⟨b, 2, none⟩ = some (.int .i64 o.n) ∧ w.cell? ⟨b, 3, none⟩ = some (.slice pb o.b.length cb) ∧ w.cell? ⟨b, 4, none⟩ = some (.slice pu o.us.length cu) := by
  refine ⟨?_, ?_, ?_, ?_, ?_⟩ <;> (rw [cell_of_row _ _ _ _ _ _ h]; rfl)
theorem dopA_one (o : DOp) (pb : Option Addr) (cb : Nat) (pu : Option Addr) (cu : Nat) : (dopA o pb cb pu cu).all (·.oneCell') = true := by
  unfold dopA
  simp [Value.oneCell']
def SmallP (w : World) (e : Ending) (w' : World) : Prop := ∃ sb : Bool, e = .returned (.bool sb) ∧ Below w.heap.size w w'
end Go.Proofs.YtkacmgfehmjijaaGreatDoor.Dk

namespace Go.Proofs.YtkacmgfehmjijaaGreatDoor.Dk
open Go.RowKit Go.Mir Go.Mir.Parts

/-- what a call does of a disk -/
def opD (d : DD) (o : DOp) : DD := if o.kind = 0 then putD d o.file o.b else if o.kind = 1 then cutD d o.file o.n else if o.kind = 2 then synD d o.file else if o.kind = 3 then ⟨d.fs, d.room, o.n.toNat, d.down⟩ else if o.kind = 4 then crashD o.us d else d
def playD : DD → List DOp → DD
  | d, [] => d
  | d, o :: r => playD (opD d o) r
theorem playD_take : ∀ (l : List DOp) (d : DD) (k : Nat) (h : k < l.length), playD d (l.take (k + 1)) = opD (playD d (l.take k)) l[k]
  | [], d, k, h => by simp at h
  | o :: r, d, 0, _ => by simp [playD]
  | o :: r, d, k + 1, h => by
    simp only [List.take_succ_cons, playD, List.getElem_cons_succ]
    exact playD_take r (opD d o) k (by simpa using h)
def FewD (d : DD) (N : Nat) : Prop := ∀ f ∈ d.fs, f.steps.length ≤ N
theorem FewD.mono {d : DD} {N M : Nat} (h : FewD d N) (hm : N ≤ M) : FewD d M := fun f hf => Nat.le_trans (h f hf) hm
theorem FewD.set {d : DD} {N i : Nat} {f : FD} (h : FewD d N) (hf : f.steps.length ≤ N) : FewD (setF d i f) N := fun g hg => by
  rcases List.mem_or_eq_of_mem_set hg with hg | hg
  · exact h g hg
  · rw [hg]; exact hf
theorem FewD.burn {d : DD} {N : Nat} (h : FewD d N) : FewD d.burn N := fun g hg => h g (by rw [burn_fs] at hg; exact hg)
theorem FewD.doD {d : DD} {N i : Nat} {f : FD} {s : St} (h : FewD d N) (hf : f.steps.length ≤ N) : FewD (doD d i f s) (N + 1) := by
  unfold Dk.doD
  split
  · exact h.mono (by omega)
  · split
    · exact h.mono (by omega)
    · refine FewD.burn (FewD.set (h.mono (by omega)) ?_)
      show (f.steps ++ [s]).length ≤ _
      rw [List.length_append]
      simp; omega
theorem FewD.syncD {d : DD} {N i : Nat} {f : FD} (h : FewD d N) : FewD (syncD d i f) N := by
  unfold Dk.syncD
  split
  · exact h
  · split
    · exact h.burn
    · exact FewD.set h.burn (Nat.zero_le _)
theorem crF_few (us : List Int) : ∀ (l : List FD) (k : Nat), ∀ f ∈ crF us k l, f.steps.length = 0
  | [], k, f, hf => by simp [crF] at hf
  | g :: r, k, f, hf => by
    rw [crF, List.mem_cons] at hf
    rcases hf with rfl | hf
    · rfl
    · exact crF_few us r (k + 1) f hf
theorem FewD.opD {d : DD} {N : Nat} (h : FewD d N) (o : DOp) : FewD (opD d o) (N + 1) := by
  have hs : FewD d (N + 1) := h.mono (by omega)
  unfold Dk.opD
  split
  · unfold putD
    split
    · split
      · rename_i f hf
        exact h.doD (h f (List.mem_of_getElem? hf))
      · exact hs
    · exact hs
  · split
    · unfold cutD
      split
      · split
        · rename_i f hf
          split
          · exact h.doD (h f (List.mem_of_getElem? hf))
          · exact hs
        · exact hs
      · exact hs
    · split
      · unfold synD
        split
        · split
          · exact hs.syncD
          · exact hs
        · exact hs
      · split
        · exact hs
        · split
          · intro f hf
            have := crF_few o.us d.fs 0 f hf
            omega
          · exact hs
theorem FewD.playD : ∀ (l : List DOp) {d : DD} {N : Nat}, FewD d N → FewD (playD d l) (N + l.length)
  | [], _, _, h => h
  | o :: r, _, N, h => by
    have := FewD.playD r (h.opD o)
    simp only [Dk.playD, List.length_cons]
    rw [show N + (r.length + 1) = N + 1 + r.length by omega]
    exact this
/-- a crash, whatever units are told -/
theorem crF_nil : ∀ (l : List FD) (k : Nat), crF [] k l = l.map (fun f => f.settle 0)
  | [], k => rfl
  | f :: r, k => by rw [crF, crF_nil r (k + 1)]; rfl
theorem crash_all {base db : Nat} {vs : List FV} {d : DD} (w : World) (h : DAt w base db vs d) (hbase : base ≤ w.heap.size) (us : List Int) (p : Option Addr) (c : Nat) (hN : Ns w p us.length c us) (B : Nat) (hB : B ≤ base) (hap : ∀ a, p = some a → 0 < us.length → a.block < B) :
    Calls Tryz.prog 17 #[.pointer (some ⟨db, 0, none⟩), .slice p us.length c] w fun e w' => e = .returned (.tuple #[]) ∧ LeftD base db vs (crashD us d) w w' := by
  cases us with
  | nil =>
    have e1 : crashD [] d = crash0 d := by unfold crashD crash0; rw [crF_nil]
    rw [e1]
    exact crash_none w h hbase c p
  | cons x r =>
    refine crash_any w h hbase (x :: r) p c hN (fun a ha => ?_)
    have h1 := hap a ha (by simp)
    exact ⟨fun ho => by have := (h.ownLt _ ho).1; omega, by omega⟩
theorem Ns.lt {w : World} {p : Option Addr} {n c : Nat} {us : List Int} (h : Ns w p n c us) : ∀ a, p = some a → 0 < us.length → a.block < w.heap.size := fun a ha h0 => by
  subst ha
  have := h.sl.cell a rfl 0 (.int .i64 us[0]) (by simp [h0])
  exact block_lt_of_cell this
end Go.Proofs.YtkacmgfehmjijaaGreatDoor.Dk

namespace Go.Proofs.YtkacmgfehmjijaaGreatDoor.Dk
open Go.RowKit Go.Mir

/-- how many bytes are kept -/
def keepN (L : Nat) (units : Int) : Nat := ((units.tmod ((L + 1 : Nat) : Int) + ((L + 1 : Nat) : Int)).tmod ((L + 1 : Nat) : Int)).toNat
theorem keepN_le (L : Nat) (units : Int) : keepN L units ≤ L := by
  unfold keepN
  have h0 : (0 : Int) < ((L + 1 : Nat) : Int) := by omega
  have h1 := Int.tmod_lt_of_pos (units.tmod ((L + 1 : Nat) : Int) + ((L + 1 : Nat) : Int)) h0
  omega
theorem keepN_eq (L : Nat) (units : Int) : (-(L : Int) ≤ units.tmod ((L : Int) + 1) ∧ units.tmod ((L : Int) + 1) ≤ (L : Int)) ∧ (units.tmod ((L : Int) + 1) + (L : Int) + 1).tmod ((L : Int) + 1) = (keepN L units : Int) ∧ (units.tmod ((L : Int) + 1) + (L : Int) + 1) % ((L : Int) + 1) = (keepN L units : Int) := by
  have h0 : (0 : Int) < (L : Int) + 1 := by omega
  have h1 := Int.tmod_lt_of_pos units h0
  have h2 := Int.lt_tmod_of_pos units h0
  unfold keepN
  have e : ((L + 1 : Nat) : Int) = (L : Int) + 1 := by omega
  rw [e]
  generalize units.tmod ((L : Int) + 1) = r at *
  have e2 : r + ((L : Int) + 1) = r + (L : Int) + 1 := by omega
  rw [e2]
  have h3 : 0 ≤ (r + (L : Int) + 1).tmod ((L : Int) + 1) := by rw [Int.tmod_eq_emod_of_nonneg (by omega)]; exact Int.emod_nonneg _ (by omega)
  have e3 : (r + (L : Int) + 1) % ((L : Int) + 1) = (r + (L : Int) + 1).tmod ((L : Int) + 1) := (Int.tmod_eq_emod_of_nonneg (by omega)).symm
  rw [e3]
  exact ⟨by omega, by omega, by omega⟩
theorem sync_cases (d : DD) : syncE d = 18 ∨ (syncE d = 0 ∧ d.down = false ∧ d.burn.down = false) := by
  unfold syncE
  cases h : d.down with
  | true => exact .inl (by simp)
  | false =>
    cases hb : d.burn.down with
    | true => exact .inl (by simp)
    | false => exact .inr ⟨by simp, rfl, rfl⟩
theorem sync_leaves {d : DD} (h3 : d.fs.length = 3) (h1 : 1 < d.fs.length) (hd : d.down = false) (hb : d.burn.down = false) :
    ∃ f2 : FD, ∃ h : 1 < (syncD d 1 d.fs[1]).fs.length, (syncD d 1 d.fs[1]).fs[1] = f2 ∧ f2.kept = f2.now ∧ f2.steps = [] ∧ (syncD d 1 d.fs[1]).down = false := by
  have e := (sync_ok 1 d.fs[1] hd hb).1
  obtain ⟨hl, hg⟩ := List.getElem?_eq_some_iff.1 (show (syncD d 1 d.fs[1]).fs[1]? = some (d.fs[1].settle (unitsAll d.fs[1].steps)) by
    rw [e]
    show (d.burn.fs.set 1 _)[1]? = _
    rw [List.getElem?_set, if_pos rfl, if_pos (by rw [burn_fs]; exact h1)])
  exact ⟨_, hl, hg, rfl, rfl, by rw [e]; exact hb⟩
theorem keep_step {d2 : DD} {f2 : FD} (h3 : d2.fs.length = 3) (h1 : 1 < d2.fs.length) (hf : d2.fs[1] = f2) (hk : f2.kept = f2.now) (hs : f2.steps = []) (hd : d2.down = false) (b : List UInt8) (units : Int) :
    ∃ h : 1 < (crashD [0, units] (doD d2 1 f2 (.put b))).fs.length,
      (crashD [0, units] (doD d2 1 f2 (.put b))).fs[1].kept = (crashD [0, units] (doD d2 1 f2 (.put b))).fs[1].now ∧
      ((doE d2 1 f2 (.put b) = 17 ∧ (crashD [0, units] (doD d2 1 f2 (.put b))).fs[1].now = f2.now) ∨
       ((doE d2 1 f2 (.put b) = 18 ∨ doE d2 1 f2 (.put b) = 0) ∧ (crashD [0, units] (doD d2 1 f2 (.put b))).fs[1].now = f2.now ++ b.take (keepN b.length units))) := by
  obtain ⟨fs, room, fuse, down⟩ := d2
  obtain ⟨x, y, z, rfl⟩ := list3 h3
  have hy : y = f2 := hf
  subst hy
  have hd' : down = false := hd
  subst hd'
  by_cases hbig : room < usedL [x, y, z] - y.need + max y.need ((St.put b).size y.now.length)
  · have e1 : doE ⟨[x, y, z], room, fuse, false⟩ 1 y (.put b) = 17 := by unfold doE; rw [if_neg Bool.false_ne_true, if_pos hbig]
    have e2 : doD ⟨[x, y, z], room, fuse, false⟩ 1 y (.put b) = ⟨[x, y, z], room, fuse, false⟩ := by unfold doD; rw [if_neg Bool.false_ne_true, if_pos hbig]
    rw [e1, e2]
    refine ⟨(show 1 < 3 by decide), rfl, .inl ⟨rfl, ?_⟩⟩
    show someU y.kept y.steps _ = y.now
    rw [hs, hk]; rfl
  · have e1 : doE ⟨[x, y, z], room, fuse, false⟩ 1 y (.put b) = 18 ∨ doE ⟨[x, y, z], room, fuse, false⟩ 1 y (.put b) = 0 := by
      unfold doE; rw [if_neg Bool.false_ne_true, if_neg hbig]
      split
      · exact .inl rfl
      · exact .inr rfl
    have e2 : (doD ⟨[x, y, z], room, fuse, false⟩ 1 y (.put b)).fs = [x, y.take (.put b), z] := by
      unfold doD; rw [if_neg Bool.false_ne_true, if_neg hbig, burn_fs]; rfl
    have e3 : (crashD [0, units] (doD ⟨[x, y, z], room, fuse, false⟩ 1 y (.put b))).fs = [x.settle (crU [0, units] 0 x), (y.take (.put b)).settle (crU [0, units] 1 (y.take (.put b))), z.settle (crU [0, units] 2 z)] := by
      show crF _ 0 (doD _ _ _ _).fs = _
      rw [e2]; rfl
    simp only [e3]
    refine ⟨(show 1 < 3 by decide), rfl, .inr ⟨e1, ?_⟩⟩
    show someU y.kept (y.steps ++ [.put b]) (crU [0, units] 1 (y.take (.put b))) = _
    have hst : (y.take (.put b)).steps = [.put b] := by show y.steps ++ [_] = _; rw [hs]; rfl
    have hu : crU [0, units] 1 (y.take (.put b)) = keepN b.length units := by
      unfold crU keepN
      rw [hst]
      show (((units.tmod _ + _).tmod _)).toNat = _
      rfl
    rw [hu, hs, hk]
    show (St.put b).act y.now (min (keepN b.length units) b.length) = _
    rw [Nat.min_eq_left (keepN_le _ _)]
    rfl
theorem ns_lit (w : World) (t : TypeId) (us : List Int) (hl : us.length ≤ 65536) (hb : ∀ x ∈ us, -9223372036854775808 ≤ x ∧ x ≤ 9223372036854775807) : Ns (w.alloc (.cells (us.map (Value.int .i64)).toArray t)) (some ⟨w.heap.size, 0, none⟩) us.length us.length us :=
  ⟨⟨by rw [List.length_map, Nat.mul_one], Nat.le_refl _, by omega, fun h => (by cases h), fun a ha j u hu => by
    obtain rfl := Option.some.inj ha
    rw [add_none, Nat.zero_add, cell_of_row _ _ _ _ _ _ (heap_alloc_last _ _), ← Array.getElem?_toList]
    exact hu⟩, rfl, hb⟩
theorem Bs.upto {w : World} {p : Option Addr} {n c : Nat} {l : List UInt8} (h : Bs w p n c l) (k : Nat) (hk : k ≤ n) : Bs w p k c (l.take k) := by
  have hn := h.length
  refine ⟨by rw [bytesV_length, List.length_take, Nat.mul_one]; omega, Nat.le_trans hk h.le, h.max, fun hp => ?_, fun a ha j u hu => ?_⟩
  · exact h.nil0 hp
  · have h1 : (bytesV l)[j]? = some u := by
      simp only [bytesV, List.getElem?_map, List.getElem?_take] at hu ⊢
      split at hu
      · exact hu
      · simp at hu
    exact h.cell a ha j u h1
end Go.Proofs.YtkacmgfehmjijaaGreatDoor.Dk

namespace Go.Proofs.YtkacmgfehmjijaaGreatDoor.Wr
open Go.RowKit Go.Mir Go.Mir.Parts

theorem infoB : (Tryz.prog.info? 5).map (fun i => (i.zero, i.size, i.bytes)) = some (some (.int .u8 0), 1, 1) := by kernel_rfl

/-- a writer that a call made: its block, its bytes' slice, room, bytes, fault -/
structure WAt (w : World) (wb : Nat) (v : Value) (room : Nat) (l : List UInt8) (bad : Int) : Prop where
  blk : w.heap[wb]? = some (.cells #[.bool true, .int .i64 (room : Int), v, .int .i64 bad] 117 (0, 0))
  own : w.ownsRow 0 5 1 v l.length (bytesV l)
  sep : v.ownBlock ≠ some wb
  fits : l.length ≤ room
  roomy : room ≤ 9223372036854775807
/-- its blocks -/
def foot (wb : Nat) (v : Value) (k : Nat) : Prop := k = wb ∨ v.ownBlock = some k

theorem WAt.touch {S : Nat → Prop} {w w' : World} {wb : Nat} {v : Value} {room : Nat} {l : List UInt8} {bad : Int} (h : WAt w wb v room l bad) (ht : Turns S w w') (hS : ∀ k, foot wb v k → ¬ S k) : WAt w' wb v room l bad :=
  ⟨ht.keep h.blk (hS _ (.inl rfl)), own_touch h.own ht (fun k hk => hS k (.inr hk)), h.sep, h.fits, h.roomy⟩
theorem WAt.drew {w : World} {wb : Nat} {v : Value} {room : Nat} {l : List UInt8} {bad : Int} (h : WAt w wb v room l bad) : WAt w.drew wb v room l bad := ⟨h.blk, h.own, h.sep, h.fits, h.roomy⟩
theorem WAt.lt {w : World} {wb : Nat} {v : Value} {room : Nat} {l : List UInt8} {bad : Int} (h : WAt w wb v room l bad) : ∀ k, foot wb v k → k < w.heap.size := by
  intro k hk
  rcases hk with rfl | hk
  · exact (Array.getElem?_eq_some_iff.1 h.blk).1
  · exact (h.own.lt k hk).2

/-- the four cells -/
theorem WAt.cells {w : World} {wb : Nat} {v : Value} {room : Nat} {l : List UInt8} {bad : Int} (h : WAt w wb v room l bad) :
    w.cell? ⟨wb, 0, none⟩ = some (.bool true) ∧ w.cell? ⟨wb, 1, none⟩ = some (.int .i64 (room : Int)) ∧ w.cell? ⟨wb, 2, none⟩ = some v ∧ w.cell? ⟨wb, 3, none⟩ = some (.int .i64 bad) ∧ w.frozen? ⟨wb, 2, none⟩ = false ∧ w.frozen? ⟨wb, 3, none⟩ = false := by
  refine ⟨?_, ?_, ?_, ?_, frozen_of_row _ _ _ _ _ h.blk, frozen_of_row _ _ _ _ _ h.blk⟩ <;> (rw [cell_of_row _ _ _ _ _ _ h.blk]; rfl)

/-! ### is there none? -/
theorem none_made (wb : Nat) (w : World) (hc : w.cell? ⟨wb, 0, none⟩ = some (.bool true)) :
    Calls Tryz.prog 77 #[.pointer (some ⟨wb, 0, none⟩)] w fun e w' => e = .returned (.bool false) ∧ w = w' := by
  go_enter Tryz.func77, Tryz.ntmps77
  go_wp2
  go_ret
  exact ⟨rfl, rfl⟩
theorem none_zero (wb : Nat) (w : World) (hc : w.cell? ⟨wb, 0, none⟩ = some (.bool false)) :
    Calls Tryz.prog 77 #[.pointer (some ⟨wb, 0, none⟩)] w fun e w' => e = .returned (.bool true) ∧ w = w' := by
  go_enter Tryz.func77, Tryz.ntmps77
  go_wp2
  go_ret
  exact ⟨rfl, rfl⟩
theorem none_nil (w : World) :
    Calls Tryz.prog 77 #[.pointer none] w fun e w' => e = .returned (.bool true) ∧ w = w' := by
  go_enter Tryz.func77, Tryz.ntmps77
  go_wp2
  go_ret
  exact ⟨rfl, rfl⟩

/-! ### Fail -/
theorem fail_any (wb : Nat) (v : Value) (room : Nat) (l : List UInt8) (bad e0 : Int) (w : World) (h : WAt w wb v room l bad) :
    Calls Tryz.prog 78 #[.pointer (some ⟨wb, 0, none⟩), .int .i64 e0] w fun e w' => e = .returned (.tuple #[]) ∧ WAt w' wb v room l (if bad = 0 then e0 else bad) ∧ Turns (foot wb v) w w' := by
  obtain ⟨c0, c1, c2, c3, f2, f3⟩ := h.cells
  have HW := Lib.hid h
  by_cases hb : bad = 0
  · subst hb
    go_enter Tryz.func78, Tryz.ntmps78
    go_wp2_with (go_at_call 77; refine (none_made _ _ c0).mono ?_; rintro e w' ⟨rfl, rfl⟩)
    go_end0
    refine ⟨rfl, ?_, (Turns.refl _ _).setCell (fun _ => .inl rfl) _⟩
    try rw [if_pos rfl]
    exact ⟨by rw [heap_setCell_same _ _ _ _ _ _ HW.out.blk]; rfl, own_touch HW.out.own ((Turns.refl (fun k => k = wb) _).setCell (fun _ => rfl) _) (fun k hk e => HW.out.sep (by rw [hk, e])), HW.out.sep, HW.out.fits, HW.out.roomy⟩
  · have hb' : (bad == 0) = false := by simp [hb]
    go_enter Tryz.func78, Tryz.ntmps78
    go_wp2_with (go_at_call 77; refine (none_made _ _ c0).mono ?_; rintro e w' ⟨rfl, rfl⟩)
    go_end0
    try rw [if_neg hb]
    exact ⟨rfl, HW.out, Turns.refl _ _⟩

/-! ### put -/
/-- what is held behind 'put': bytes, fault -/
def putS (room : Nat) (l : List UInt8) (bad : Int) (fits : Bool) (ps : List (List UInt8)) : List UInt8 × Int :=
  if bad = 0 then (if fits then (if total ps ≤ room - l.length then (l ++ ps.flatten, 0) else (l, 3)) else (l, 1)) else (l, bad)

/-- what a call leaves of a writer -/
def Left (wb : Nat) (v : Value) (room : Nat) (r : List UInt8 × Int) (w w' : World) : Prop :=
  ∃ v', WAt w' wb v' room r.1 r.2 ∧ Turns (foot wb v) w w' ∧ NextV w v v'

set_option maxRecDepth 100000 in
set_option maxHeartbeats 400000 in
theorem put_sum (p : Option Addr) (n c : Nat) (ls : List (List UInt8)) (wb : Nat) (v : Value) (room : Nat) (l : List UInt8) (fits : Bool) (w : World) (h : WAt w wb v room l 0)
    (hP : ∀ w', Turns (foot wb v) w w' → Pts w' p n c ls) (hs : total ls ≤ 70368744177664) (hl : l.length ≤ 70368744177664) :
    Calls Tryz.prog 70 #[.pointer (some ⟨wb, 0, none⟩), .bool fits, .slice p n c] w fun e w' => e = .returned (.tuple #[]) ∧ Left wb v room (putS room l 0 fits ls) w w' := by
  obtain ⟨pv, cv, hv, hsv⟩ := own_sl h.own
  subst hv
  have hvle := hsv.le
  have hvmax := hsv.max
  clear hsv
  obtain ⟨c0, c1, c2, c3, f2, f3⟩ := h.cells
  have hroom := h.roomy
  have hfit := h.fits
  have HW := Lib.hid h
  have hp := hP w (Turns.refl _ _)
  have hle := hp.le
  have hmax := hp.max
  have hn := hp.len
  have HP := Lib.hid hp
  have HPP := Lib.hid hP
  clear h hp hP
  go_enter Tryz.func70, Tryz.ntmps70
  go_wp2_with (go_at_call 77; refine (none_made _ _ c0).mono ?_; rintro e w' ⟨rfl, rfl⟩)
  go_loop [6, 23] (fun x j => ∃ k : Nat, k ≤ n ∧ j = .int .i64 k ∧ x = .int .i64 ((total (ls.take k) : Nat) : Int)) (fun _ j => n - (intOf j).toNat)
  case atStart => exact ⟨0, by omega, rfl, rfl⟩
  case round =>
    obtain ⟨k, hk, rfl, rfl⟩ := hrel
    have htl := total_le ls k
    by_cases hlt : k < n
    · obtain ⟨b, o, rfl⟩ := HP.out.addr (by omega)
      obtain ⟨q, m, d, hc, hB⟩ := HP.out.cell _ rfl k (by omega)
      rw [add_none] at hc
      have htk := total_take ls k (by omega)
      have htl' := total_le ls (k + 1)
      rw [hB.length] at htk
      have HTK := Lib.hid htk
      have hsum : total (ls.take k) + m ≤ 4611686018427387904 := by omega
      clear htk htl' hB
      generalize hT : total (ls.take k) = T at *
      have HT := Lib.hid hT
      clear hT
      go_wp2
      go_round
      case rel => exact ⟨k + 1, by omega, by go_num, by rw [HTK.out]; go_num⟩
      case measure => simp [intOf]; omega
    · have hk' : k = ls.length := by omega
      rw [hk', List.take_length]
      generalize hT : total ls = T at *
      have HT := Lib.hid hT
      clear hT htl
      cases fits with
      | false =>
        go_wp2_with fail
        refine (fail_any wb _ room l 0 1 _ HW.out).mono ?_
        rintro e w1 ⟨rfl, hw1, ht1⟩
        have HW1 := Lib.hid hw1
        have HT1 := Lib.hid ht1
        clear hw1 ht1
        go_wp2_with fail
        refine bodyPost_ret (results_none rfl _ _ _) rfl ?_
        exact ⟨rfl, _, HW1.out, HT1.out, fun _ hk _ => hk⟩
      | true =>
        by_cases hT2 : T ≤ room - l.length
        · have hcmp : decide ((room : Int) - (l.length : Int) < (T : Int)) = false := by simp; omega
          have hput : Hid (putS room l 0 true ls = (l ++ ls.flatten, 0)) := by show _ = _; simp [putS, HT.out, hT2]
          have htot : l.length + T ≤ 140737488355328 ∧ l.length + T ≤ room := by omega
          go_wp2_with fail
          go_quiet (fail)
          go_wp2_with fail
          have HW2 : Hid (WAt (w.drewN nq) wb (.slice pv l.length cv) room l 0) := ⟨HW.out.blk, HW.out.own, HW.out.sep, HW.out.fits, HW.out.roomy⟩
          have HT2 : Hid (Turns (foot wb (.slice pv l.length cv)) w (w.drewN nq)) := ⟨rfl, rfl, rfl, Nat.le_refl _, fun _ _ _ => rfl⟩
          clear c0 c1 c2 c3 f2 f3
          generalize w.drewN nq = w2 at *
          go_loopw [53] (fun j wr => ∃ (k : Nat) (p1 : Option Addr) (n1 c1 : Nat), k ≤ n ∧ j = .int .i64 k ∧ WAt wr wb (.slice p1 n1 c1) room (l ++ (ls.take k).flatten) 0 ∧ Turns (foot wb (.slice pv l.length cv)) w wr ∧ NextV w (.slice pv l.length cv) (.slice p1 n1 c1)) (fun j _ => n - (intOf j).toNat)
          case atStart => exact ⟨0, pv, l.length, cv, by omega, rfl, by simpa using HW2.out, HT2.out, fun _ hk _ => hk⟩
          case round =>
            obtain ⟨k, p1, n1, c1, hk, rfl, hw1, ht1, hnx1⟩ := hrel
            by_cases hlt : k < n
            · obtain ⟨e0, e1, e2, e3, g2, g3⟩ := hw1.cells
              obtain ⟨b, o, rfl⟩ := HP.out.addr (by omega)
              obtain ⟨q, m, d, hc, hB⟩ := (HPP.out wr ht1).cell _ rfl k (by omega)
              rw [add_none] at hc
              have hlen : (l ++ (ls.take k).flatten).length = l.length + total (ls.take k) := by rw [List.length_append, total_flatten]
              have htk := total_take ls k (by omega)
              have htl' := total_le ls (k + 1)
              rw [hB.length] at htk
              rw [HT.out] at htl'
              have hfl : Hid (l ++ (ls.take (k+1)).flatten = (l ++ (ls.take k).flatten) ++ ls[k]) := by
                show _ = _
                rw [take_snoc ls k (by omega), List.flatten_append]; simp
              have hbd : Hid ((l ++ (ls.take k).flatten).length + m ≤ 9223372036854775807 ∧ ((l ++ (ls.take k).flatten).length + m) * 1 ≤ 140737488355328) := by
                show _ ∧ _
                rw [hlen]; omega
              have hfit' : Hid ((l ++ (ls.take (k+1)).flatten).length ≤ room) := by
                show _ ≤ _
                rw [List.length_append, total_flatten]; omega
              have HBm := Lib.hid hB.length
              have HS := Lib.hid hB
              have hleq : (l ++ (ls.take k).flatten).length + m = (l ++ (ls.take (k+1)).flatten).length := by rw [hfl.out, ← hB.length]; exact List.length_append.symm
              clear hlen htk htl' hB
              generalize l ++ (ls.take k).flatten = L at *
              generalize hL' : l ++ (ls.take (k+1)).flatten = L' at *
              have HL' := Lib.hid hL'
              have HLQ := Lib.hid hleq
              have HW1 := Lib.hid hw1
              have HT1 := Lib.hid ht1
              have HN1 := Lib.hid hnx1
              clear hw1 ht1 hnx1 hL' hleq
              go_wp2_with (at_builtin; refine wpList_append_nx rfl _ _ 31 rfl (base := 0) Tryz.underlying31 infoB rfl (by omega) rfl HW1.out.own rfl HS.out (bytesV_one _) hbd.out (Nat.zero_le _) ?_)
              intro p' c' w3 hown hg hnx hne
              have e2' : w3.cell? ⟨wb, 2, none⟩ = some (.slice p1 n1 c1) := hg.cell e2 (fun e => HW1.out.sep e.symm)
              have g2' : w3.frozen? ⟨wb, 2, none⟩ = false := by
                rw [World.frozen?_of_block (hg.block wb (Array.getElem?_eq_some_iff.1 HW1.out.blk).1 (fun e => HW1.out.sep e.symm))]; exact g2
              have HO := Lib.hid hown
              have HG := Lib.hid hg
              have HNX := Lib.hid hnx
              clear hown hg hnx hne
              go_wp2_with fail
              go_roundw
              case rel =>
                have hlt1 : wb < wr.heap.size := (Array.getElem?_eq_some_iff.1 HW1.out.blk).1
                have hb3 : w3.heap[wb]? = some (.cells #[.bool true, .int .i64 (room : Int), .slice p1 n1 c1, .int .i64 0] 117 (0, 0)) := by
                  rw [HG.out.block wb hlt1 (fun e => HW1.out.sep e.symm)]; exact HW1.out.blk
                have hsep : ¬ (Value.slice p' (L.length + m) c').ownBlock = some wb := by
                  intro e
                  rcases HNX.out wb e with h | h
                  · exact HW1.out.sep h
                  · omega
                refine ⟨k + 1, p', L.length + m, c', by omega, by go_num, ?_, ?_, ?_⟩
                rw [HL'.out]
                refine ⟨?_, ?_, hsep, hfit'.out, hroom⟩
                · rw [heap_setCell_same _ _ _ _ _ _ hb3]; rfl
                · have := own_touch HO.out ((Turns.refl (fun k => k = wb) _).setCell (p := ⟨wb, 2, none⟩) (fun _ => rfl) (.slice p' (L.length + m) c')) (fun k hk e => hsep (by rw [hk, e]))
                  rw [hfl.out, bytesV_append, ← hfl.out, ← HLQ.out]
                  exact this
                · refine HT1.out.trans ((Turns.grown (S := foot wb (.slice p1 n1 c1)) HG.out (fun k hk => .inr hk)).setCell (fun _ => .inl rfl) _) ?_
                  intro i hi hfi
                  rcases hfi with rfl | hfi
                  · exact .inl rfl
                  · exact .inr (HN1.out i hfi hi)
                · intro j hj hjl
                  rcases HNX.out j hj with h | h
                  · exact HN1.out j h hjl
                  · have := HT1.out.size; omega
              case measure => simp [intOf]; omega
            · have hk' : k = ls.length := by omega
              rw [hk', List.take_length] at hw1
              have HW1 := Lib.hid hw1
              have HT1 := Lib.hid ht1
              have HN1 := Lib.hid hnx1
              clear hw1 ht1 hnx1
              go_wp2_with fail
              go_end0
              exact ⟨rfl, _, by rw [hput.out]; exact HW1.out, HT1.out, HN1.out⟩
        · have hcmp : decide ((room : Int) - (l.length : Int) < (T : Int)) = true := by simp; omega
          have hput : Hid (putS room l 0 true ls = (l, 3)) := by show _ = _; simp [putS, HT.out, hT2]
          go_wp2_with fail
          go_quiet (fail)
          go_wp2_with fail
          have HW2 : Hid (WAt (w.drewN nq) wb (.slice pv l.length cv) room l 0) := ⟨HW.out.blk, HW.out.own, HW.out.sep, HW.out.fits, HW.out.roomy⟩
          have HT2 : Hid (Turns (foot wb (.slice pv l.length cv)) w (w.drewN nq)) := ⟨rfl, rfl, rfl, Nat.le_refl _, fun _ _ _ => rfl⟩
          refine (fail_any wb _ room l 0 3 _ HW2.out).mono ?_
          rintro e w1 ⟨rfl, hw1, ht1⟩
          have HW1 := Lib.hid hw1
          have HT1 : Hid (Turns (foot wb (.slice pv l.length cv)) w w1) := HT2.out.trans ht1 (fun _ _ h => h)
          clear hw1 ht1
          go_wp2_with fail
          refine bodyPost_ret (results_none rfl _ _ _) rfl ?_
          exact ⟨rfl, _, by rw [hput.out]; exact HW1.out, HT1.out, fun _ hk _ => hk⟩

end Go.Proofs.YtkacmgfehmjijaaGreatDoor.Wr

namespace Go.Proofs.YtkacmgfehmjijaaGreatDoor.Wr
open Go.RowKit Go.Mir Go.Mir.Parts

theorem Left.refl {w : World} {wb : Nat} {v : Value} {room : Nat} {l : List UInt8} {bad : Int} (h : WAt w wb v room l bad) : Left wb v room (l, bad) w w := ⟨v, h, Turns.refl _ _, fun _ hk _ => hk⟩

theorem put_any (p : Option Addr) (n c : Nat) (ls : List (List UInt8)) (wb : Nat) (v : Value) (room : Nat) (l : List UInt8) (bad : Int) (fits : Bool) (w : World) (h : WAt w wb v room l bad)
    (hP : ∀ w', Turns (foot wb v) w w' → Pts w' p n c ls) (hs : total ls ≤ 70368744177664) (hl : l.length ≤ 70368744177664) :
    Calls Tryz.prog 70 #[.pointer (some ⟨wb, 0, none⟩), .bool fits, .slice p n c] w fun e w' => e = .returned (.tuple #[]) ∧ Left wb v room (putS room l bad fits ls) w w' := by
  by_cases hb : bad = 0
  · subst hb
    exact put_sum p n c ls wb v room l fits w h hP hs hl
  · obtain ⟨c0, c1, c2, c3, f2, f3⟩ := h.cells
    have hb' : (bad != 0) = true := by simp [hb]
    have HL : Hid (Left wb v room (putS room l bad fits ls) w w) := by
      show Left _ _ _ _ _ _
      rw [putS, if_neg hb]; exact Left.refl h
    clear h hP
    go_enter Tryz.func70, Tryz.ntmps70
    go_wp2_with (go_at_call 77; refine (none_made _ _ c0).mono ?_; rintro e w' ⟨rfl, rfl⟩)
    refine bodyPost_ret (results_none rfl _ _ _) rfl ?_
    exact ⟨rfl, HL.out⟩

/-- what a part's slices in a new row are, while the writer's own blocks turn -/
theorem stable1 {w : World} {S : Nat → Prop} {p : Option Addr} {n c b : Nat} {l : List UInt8} (hB : ∀ w', Turns S w w' → Bs w' p n c l) (hS : ∀ k, S k → k < w.heap.size) (t : TypeId) (hb : b = w.heap.size) :
    ∀ w', Turns S (w.alloc (.cells #[.slice p n c] t)) w' → Pts w' (some ⟨b, 0, none⟩) 1 1 [l] := by
  intro w' ht
  subst hb
  have hT : Turns S w w' := ((Turns.refl S w).alloc _).trans ht (fun _ _ h => h)
  have hrow : w'.heap[w.heap.size]? = some (.cells #[.slice p n c] t) := ht.keep (heap_alloc_last _ _) (fun h => by have := hS _ h; omega)
  refine ⟨rfl, Nat.le_refl _, by omega, fun h => (by cases h), fun a ha j hj => ?_⟩
  obtain rfl := Option.some.inj ha
  obtain rfl : j = 0 := by simp at hj; omega
  exact ⟨p, n, c, by rw [add_none, cell_of_row _ _ _ _ _ _ hrow]; rfl, hB w' hT⟩

theorem Left.alloc {w : World} {wb : Nat} {v : Value} {room : Nat} {r : List UInt8 × Int} {o : Obj} {w' : World} (h : Left wb v room r (w.alloc o) w') : Left wb v room r w w' := by
  obtain ⟨v', h1, h2, h3⟩ := h
  exact ⟨v', h1, ((Turns.refl _ w).alloc o).trans h2 (fun _ _ h => h), fun k hk hlt => h3 k hk (by simp; omega)⟩
theorem WAt.alloc {w : World} {wb : Nat} {v : Value} {room : Nat} {l : List UInt8} {bad : Int} (h : WAt w wb v room l bad) (o : Obj) : WAt (w.alloc o) wb v room l bad :=
  h.touch (S := fun _ => False) ((Turns.refl _ w).alloc o) (fun _ _ h => h)

theorem bytes_any (p : Option Addr) (n c : Nat) (b : List UInt8) (wb : Nat) (v : Value) (room : Nat) (l : List UInt8) (bad : Int) (w : World) (h : WAt w wb v room l bad)
    (hB : ∀ w', Turns (foot wb v) w w' → Bs w' p n c b) (hs : b.length ≤ 70368744177664) (hl : l.length ≤ 70368744177664) :
    Calls Tryz.prog 61 #[.pointer (some ⟨wb, 0, none⟩), .slice p n c] w fun e w' => e = .returned (.tuple #[]) ∧ Left wb v room (putS room l bad true [b]) w w' := by
  have hle := (hB w (Turns.refl _ _)).le
  have hmax := (hB w (Turns.refl _ _)).max
  have HS := Lib.hid (fun t b hb => stable1 hB h.lt t hb (b := b))
  have HW := Lib.hid h
  clear hB h
  go_enter Tryz.func61, Tryz.ntmps61
  go_wp2_with (go_at_call 70; refine (put_any _ _ _ [b] wb v room l bad true _ (HW.out.alloc _) (HS.out _ _ rfl) (by simpa [total] using hs) hl).mono ?_; rintro e w1 ⟨rfl, hl1⟩)
  go_end0
  exact ⟨rfl, hl1.alloc⟩

theorem err_any (wb : Nat) (v : Value) (room : Nat) (l : List UInt8) (bad : Int) (w : World) (h : WAt w wb v room l bad) :
    Calls Tryz.prog 71 #[.pointer (some ⟨wb, 0, none⟩)] w fun e w' => e = .returned (.int .i64 bad) ∧ w = w' := by
  obtain ⟨c0, c1, c2, c3, f2, f3⟩ := h.cells
  clear h
  go_enter Tryz.func71, Tryz.ntmps71
  go_wp2_with (go_at_call 77; refine (none_made _ _ c0).mono ?_; rintro e w' ⟨rfl, rfl⟩)
  go_ret
  exact ⟨rfl, rfl⟩

theorem done_any (wb : Nat) (v : Value) (room : Nat) (l : List UInt8) (bad : Int) (w : World) (h : WAt w wb v room l bad) (hl : l.length ≤ 140737488355328) :
    Calls Tryz.prog 59 #[.pointer (some ⟨wb, 0, none⟩)] w fun e w' =>
      (∃ p n c, e = .returned (.tuple #[.slice p n c, .int .i64 bad]) ∧ w'.ownsRow w.heap.size 5 1 (.slice p n c) n (bytesV (if bad = 0 then l else []))) ∧ Below w.heap.size w w' := by
  obtain ⟨pv, cv, hv, hsv⟩ := own_sl h.own
  subst hv
  obtain ⟨c0, c1, c2, c3, f2, f3⟩ := h.cells
  have HW := Lib.hid h
  have HV := Lib.hid hsv
  clear h hsv
  by_cases hb : bad = 0
  · subst hb
    have hbd : Hid (0 + l.length ≤ 9223372036854775807 ∧ (0 + l.length) * 1 ≤ 140737488355328) := by
      show _ ∧ _; omega
    go_enter Tryz.func59, Tryz.ntmps59
    go_wp2_with (first | (go_at_call 71; refine (err_any _ _ _ _ _ _ HW.out).mono ?_; rintro e w' ⟨rfl, rfl⟩) | (at_builtin; refine wpList_append_nx rfl _ _ 31 rfl (base := w.heap.size) Tryz.underlying31 infoB rfl (by omega) rfl (World.ownsRow_nil _ _ _ _) rfl HV.out (bytesV_one _) hbd.out (Nat.le_refl _) ?_))
    intro p' c' w1 hown hg hnx hne
    have HO : Hid (w1.ownsRow w.heap.size 5 1 (.slice p' (0 + l.length) c') (0 + l.length) (bytesV (if (0 : Int) = 0 then l else []))) := by
      show World.ownsRow _ _ _ _ _ _ _
      simpa using hown
    have HG : Hid (Below w.heap.size w w1) := (Below.refl _ _).grown hg (Nat.le_refl _) (fun k hk => by simp [Value.ownBlock] at hk)
    clear hown hg hnx hne
    go_wp2
    go_ret2
    refine ⟨⟨p', _, c', rfl, ?_⟩, HG.out⟩
    have := HO.out
    rw [Nat.zero_add] at this
    exact this
  · have hb' : (bad != 0) = true := by simp [hb]
    go_enter Tryz.func59, Tryz.ntmps59
    go_wp2_with (go_at_call 71; refine (err_any _ _ _ _ _ _ HW.out).mono ?_; rintro e w' ⟨rfl, rfl⟩)
    go_ret2
    have ho : w.ownsRow w.heap.size 5 1 (.slice none 0 0) 0 (bytesV (if bad = 0 then l else [])) := by rw [if_neg hb]; exact World.ownsRow_nil _ _ _ _
    exact ⟨⟨none, 0, 0, rfl, by simpa [hb] using ho⟩, Below.refl _ _⟩

theorem new_any (room : Int) (w : World) (hr : room ≤ 9223372036854775807) :
    Calls Tryz.prog 56 #[.int .i64 room] w fun e w' => e = .returned (.pointer (some ⟨w.heap.size, 0, none⟩)) ∧ WAt w' w.heap.size (.slice none 0 0) room.toNat [] 0 ∧ Below w.heap.size w w' := by
  have key : Hid (∀ x : Int, x = (room.toNat : Int) → WAt (w.alloc (.cells #[.bool true, .int .i64 x, .slice none 0 0, .int .i64 0] 117)) w.heap.size (.slice none 0 0) room.toNat [] 0) := by
    intro x hx
    subst hx
    exact ⟨heap_alloc_last _ _, World.ownsRow_nil _ _ _ _, by simp [Value.ownBlock], by simp, by omega⟩
  go_enter Tryz.func56, Tryz.ntmps56
  go_wp2
  all_goals
    go_ret
    exact ⟨rfl, key.out _ (by omega), Below.allocs _ _⟩

end Go.Proofs.YtkacmgfehmjijaaGreatDoor.Wr

namespace Go.Proofs.YtkacmgfehmjijaaGreatDoor.Wr
open Go.RowKit Go.Mir Go.Mir.Parts

theorem infoS : (Tryz.prog.info? 31).map (fun i => (i.zero, i.size, i.bytes)) = some (some (.slice none 0 0), 1, 24) := by kernel_rfl
def idV (p : Option Addr) (i : Nat) : Value := match p with
  | some a => .slice (some ⟨a.block, a.off + i * 32, none⟩) 32 32
  | none => undef
def idsV (p : Option Addr) (k : Nat) : List Value := (List.range k).map (idV p)
theorem idsV_succ (p : Option Addr) (k : Nat) : idsV p (k + 1) = idsV p k ++ [idV p k] := by simp [idsV, List.range_succ]
theorem total_ids (ids : List (List UInt8)) (h : ∀ x ∈ ids, x.length = 32) : total ids = 32 * ids.length := by
  induction ids with
  | nil => rfl
  | cons x r ih =>
    have h1 := h x (by simp)
    have h2 := ih (fun y hy => h y (by simp [hy]))
    simp only [total, List.map_cons, List.sum_cons, List.length_cons] at *
    omega

/-! ### Num -/
/-- byte j of eight, the highest first -/
def nb (n j : Nat) : UInt8 := UInt8.ofNat (n / 2 ^ (8 * (7 - j)))
def numArr (n k : Nat) : Array Value := ((List.range 8).map fun j => Value.int .u8 (if 8 ≤ j + k then ((nb n j).toNat : Int) else 0)).toArray
theorem numArr_size (n k : Nat) : (numArr n k).size = 8 := by simp [numArr]
theorem numArr_get (n k j : Nat) (hj : j < 8) : (numArr n k)[j]? = some (Value.int .u8 (if 8 ≤ j + k then ((nb n j).toNat : Int) else 0)) := by simp [numArr, hj]
theorem nb_int (n k : Nat) (hk : k < 8) : ((n : Int) / 2 ^ (8 * k)) % 256 = ((nb n (7 - k)).toNat : Int) := by
  have e : ((n : Int) / 2 ^ (8 * k)) = ((n / 2 ^ (8 * k) : Nat) : Int) := by rw [Int.natCast_ediv, Int.natCast_pow]; rfl
  rw [e, nb, UInt8.toNat_ofNat', show 7 - (7 - k) = k from by omega]
  omega
theorem numArr_set (n k : Nat) (hk : k < 8) : (numArr n k).setIfInBounds (7 - k) (.int .u8 ((nb n (7 - k)).toNat : Int)) = numArr n (k + 1) := by
  apply Array.ext_getElem?
  intro j
  by_cases hj : j < 8
  · rw [Array.getElem?_setIfInBounds, numArr_get _ _ _ hj, numArr_get _ _ _ hj, numArr_size]
    by_cases e : 7 - k = j
    · subst e; simp [show 7 - k < 8 by omega, show 8 ≤ 7 - k + (k + 1) by omega]
    · rw [if_neg e]
      have : (8 ≤ j + k) ↔ (8 ≤ j + (k + 1)) := by omega
      simp [this]
  · rw [Array.getElem?_eq_none, Array.getElem?_eq_none] <;> simp [numArr_size] <;> omega
def Z8 : Array Value := Array.replicate 8 (.int .u8 0)
theorem numArr_0 (n : Nat) : numArr n 0 = Z8 := by
  apply Array.ext_getElem?
  intro j
  by_cases hj : j < 8
  · rw [numArr_get _ _ _ hj, if_neg (by omega)]; simp [Z8, hj]
  · rw [Array.getElem?_eq_none, Array.getElem?_eq_none] <;> simp [numArr_size, Z8] <;> omega
/-- so many bytes of a number, the highest first -/
def be (n width : Nat) : List UInt8 := (List.range width).map fun i => nb n (8 - width + i)
theorem be_length (n width : Nat) : (be n width).length = width := by simp [be]

def numS (room : Nat) (l : List UInt8) (bad : Int) (n : Nat) (width : Int) : List UInt8 × Int :=
  if 1 ≤ width ∧ width ≤ 8 ∧ (width = 8 ∨ n < 2 ^ (8 * width.toNat)) then putS room l bad true [be n width.toNat] else putS room l bad false [[]]
theorem putS_false (room : Nat) (l : List UInt8) (bad : Int) (ps qs : List (List UInt8)) : putS room l bad false ps = putS room l bad false qs := by simp [putS]

/-- the end of the array that Num lays, as a slice -/
theorem num_bs {w' : World} {b n k : Nat} {t : TypeId} (hrow : w'.heap[b]? = some (.cells (numArr n 8) t (0, 0))) (hk : k ≤ 8) : Bs w' (some ⟨b, 8 - k, none⟩) k k (be n k) :=
  ⟨by rw [bytesV_length, be_length, Nat.mul_one], Nat.le_refl _, by omega, fun h => (by cases h), fun a ha j u hu => by
    obtain rfl := Option.some.inj ha
    have hj : j < k := by
      have := (List.getElem?_eq_some_iff.1 hu).1
      rwa [bytesV_length, be_length] at this
    rw [add_none, cell_of_row _ _ _ _ _ _ hrow, numArr_get _ _ _ (by omega), if_pos (by omega), ← hu]
    rw [bytesV_get _ _ (by rw [be_length]; exact hj)]
    simp [be]⟩

set_option maxRecDepth 100000 in
set_option maxHeartbeats 400000 in
theorem num_any (n : Nat) (width : Int) (wb : Nat) (v : Value) (room : Nat) (l : List UInt8) (bad : Int) (w : World) (h : WAt w wb v room l bad) (hn : n < 18446744073709551616) (hw1 : -9223372036854775808 ≤ width) (hw2 : width ≤ 9223372036854775807) (hl : l.length ≤ 70368744177664) :
    Calls Tryz.prog 58 #[.pointer (some ⟨wb, 0, none⟩), .int .u64 (n : Int), .int .i64 width] w fun e w' => e = .returned (.tuple #[]) ∧ Left wb v room (numS room l bad n width) w w' := by
  have hz : ∀ w, (zeroValue 118).run Tryz.prog w = .ok (.agg Z8) w := fun w => by kernel_rfl
  have HW := Lib.hid h
  have hlt0 := Lib.hid h.lt
  clear h
  go_enter Tryz.func58, Tryz.ntmps58
  go_wp2
  go_loopw [10] (fun j wr => ∃ k : Nat, k ≤ 8 ∧ j = .int .i64 k ∧ wr.heap.size = w.heap.size + 1 ∧ wr.heap[w.heap.size]? = some (.cells (numArr n k) 118 (0, 0)) ∧ Below w.heap.size w wr) (fun j _ => 8 - (intOf j).toNat)
  case atStart => exact ⟨0, by omega, rfl, by simp, by rw [numArr_0]; exact heap_alloc_last _ _, Below.allocs _ _⟩
  case round =>
    obtain ⟨k, hk, rfl, hsz, hb0, hbl⟩ := hrel
    by_cases hlt : k < 8
    · have hd : decide ((k:Int) < 8) = true := by simp; omega
      have hc : wr.cell? ⟨w.heap.size, 7 - k, none⟩ = some (.int .u8 0) := by
        rw [cell_of_row _ _ _ _ _ _ hb0, numArr_get _ _ _ (by omega), if_neg (by omega)]
      have hf := frozen_of_row _ _ (7 - k) _ _ hb0
      have hv := nb_int n k hlt
      go_wp2
      go_roundw
      case rel =>
        exact ⟨k + 1, by omega, by go_num, by simp [World.setCell, hsz], by rw [heap_setCell_same _ _ _ _ _ _ hb0, numArr_set n k hlt], hbl.setCell (by simp) _⟩
      case measure => simp [intOf]; omega
    · have hd : decide ((k:Int) < 8) = false := by simp; omega
      have hk8 : k = 8 := by omega
      have hrow : wr.heap[w.heap.size]? = some (.cells (numArr n 8) 118 (0, 0)) := by rw [← hk8]; exact hb0
      have HR := Lib.hid hrow
      have HB := Lib.hid hbl
      have HW' : Hid (WAt wr wb v room l bad) := HW.out.touch (Turns.of_below (S := fun _ => False) hbl) (fun _ _ h => h)
      have HP : Hid (∀ m : Nat, m ≤ 8 → ∀ b' t, b' = wr.heap.size → ∀ w', Turns (foot wb v) (wr.alloc (.cells #[.slice (some ⟨w.heap.size, 8 - m, none⟩) m m] t)) w' → Pts w' (some ⟨b', 0, none⟩) 1 1 [be n m]) := by
        intro m hm b' t hb'
        refine stable1 (S := foot wb v) (fun w' ht => ?_) (fun i hi => by have := hlt0.out i hi; omega) t hb'
        exact num_bs (ht.keep hrow (fun hf => by have := hlt0.out _ hf; omega)) hm
      clear hb0 hbl hrow
      have hfin : Hid (∀ r o w1, Left wb v room r (wr.alloc o) w1 → Left wb v room r w w1) := by
        intro r o w1 h1
        obtain ⟨v', h1, h2, h3⟩ := h1.alloc
        exact ⟨v', h1, (Turns.of_below HB.out).trans h2 (fun _ _ h => h), fun i hi hlt => h3 i hi (by omega)⟩
      by_cases hw : 1 ≤ width ∧ width ≤ 8
      · obtain ⟨m, rfl⟩ : ∃ m : Nat, width = (m : Int) := ⟨width.toNat, by omega⟩
        have hsl : ∀ wx, (Instr.sliceAt 118 (.pointer (some ⟨w.heap.size, 0, none⟩)) (some (.int .i64 (8 - (m : Int)))) none none).run Tryz.prog wx = .ok (.slice (some ⟨w.heap.size, 8 - m, none⟩) m m) wx := fun wx => by
          have h1 := run_sliceAt_from (P := Tryz.prog) wx 118 5 8 1 Tryz.underlying118 (by kernel_rfl) ⟨w.heap.size, 0, none⟩ .i64 (8 - (m : Int)) (8 - m) (by omega) (by omega)
          rw [h1, add_none, show 0 + (8 - m) * 1 = 8 - m by omega, show 8 - (8 - m) = m by omega]
        have htot : total [be n m] ≤ 70368744177664 := by simp [total, be_length]; omega
        have HTO := Lib.hid htot
        clear htot
        have hm1 : (1 : Int) ≤ (m : Int) := by omega
        have hm8 : (m : Int) ≤ 8 := by omega
        by_cases hm : m = 8
        · have he : ((m : Int) == 8) = true := by rw [beq_iff_eq]; omega
          have hnum : Hid (numS room l bad n (m : Int) = putS room l bad true [be n m]) := by
            show _ = _
            rw [numS, if_pos ⟨hw.1, hw.2, .inl (by rw [hm]; rfl)⟩, Int.toNat_natCast]
          clear hm
          go_wp2_with (go_at_call 70; refine (put_any _ _ _ [be n m] wb v room l bad true _ (HW'.out.alloc _) (HP.out m (by omega) _ _ (by omega)) HTO.out hl).mono ?_; rintro e w1 ⟨rfl, hl1⟩)
          go_end0
          exact ⟨rfl, by rw [hnum.out]; exact hfin.out _ _ _ hl1⟩
        · have he : ((m : Int) == 8) = false := by rw [beq_eq_false_iff_ne]; omega
          have hpw : ((n : Int) / 2 ^ (8 * m)) = ((n / 2 ^ (8 * m) : Nat) : Int) := by rw [Int.natCast_ediv, Int.natCast_pow]; rfl
          by_cases hnm : n < 2 ^ (8 * m)
          · have hs0 : ((n : Int) / 2 ^ (8 * m) == 0) = true := by rw [hpw, Nat.div_eq_of_lt hnm]; rfl
            have hnum : Hid (numS room l bad n (m : Int) = putS room l bad true [be n m]) := by
              show _ = _
              rw [numS, if_pos ⟨hw.1, hw.2, .inr (by rw [Int.toNat_natCast]; exact hnm)⟩, Int.toNat_natCast]
            clear hm hpw hnm
            go_wp2_with (go_at_call 70; refine (put_any _ _ _ [be n m] wb v room l bad true _ (HW'.out.alloc _) (HP.out m (by omega) _ _ (by omega)) HTO.out hl).mono ?_; rintro e w1 ⟨rfl, hl1⟩)
            go_end0
            exact ⟨rfl, by rw [hnum.out]; exact hfin.out _ _ _ hl1⟩
          · have hs0 : ((n : Int) / 2 ^ (8 * m) == 0) = false := by
              rw [hpw, beq_eq_false_iff_ne]
              have : 0 < n / 2 ^ (8 * m) := Nat.div_pos (by omega) (Nat.two_pow_pos _)
              omega
            have hnum : Hid (numS room l bad n (m : Int) = putS room l bad false [be n m]) := by
              show _ = _
              rw [numS, if_neg (fun h => by rcases h.2.2 with h | h; omega; rw [Int.toNat_natCast] at h; exact hnm h)]
              exact putS_false _ _ _ _ _
            clear hm hpw hnm
            go_wp2_with (go_at_call 70; refine (put_any _ _ _ [be n m] wb v room l bad false _ (HW'.out.alloc _) (HP.out m (by omega) _ _ (by omega)) HTO.out hl).mono ?_; rintro e w1 ⟨rfl, hl1⟩)
            go_end0
            exact ⟨rfl, by rw [hnum.out]; exact hfin.out _ _ _ hl1⟩
      · have hsl : ∀ wx, (Instr.sliceAt 118 (.pointer (some ⟨w.heap.size, 0, none⟩)) (some (.int .i64 0)) none none).run Tryz.prog wx = .ok (.slice (some ⟨w.heap.size, 0, none⟩) 8 8) wx := fun wx => by
          have h1 := run_sliceAt_from (P := Tryz.prog) wx 118 5 8 1 Tryz.underlying118 (by kernel_rfl) ⟨w.heap.size, 0, none⟩ .i64 0 0 rfl (by omega)
          rw [h1, add_none]
        have hnum : Hid (numS room l bad n width = putS room l bad false [be n 8]) := by
          show _ = _
          rw [numS, if_neg (fun h => hw ⟨h.1, h.2.1⟩)]
          exact putS_false _ _ _ _ _
        have HP0 : Hid (∀ b' t, b' = wr.heap.size → ∀ w', Turns (foot wb v) (wr.alloc (.cells #[.slice (some ⟨w.heap.size, 0, none⟩) 8 8] t)) w' → Pts w' (some ⟨b', 0, none⟩) 1 1 [be n 8]) := HP.out 8 (by omega)
        have HTO : Hid (total [be n 8] ≤ 70368744177664) := by show _ ≤ _; simp [total, be_length]
        by_cases hw0 : width < 1
        · go_wp2_with (go_at_call 70; refine (put_any _ _ _ [be n 8] wb v room l bad false _ (HW'.out.alloc _) (HP0.out _ _ (by omega)) HTO.out hl).mono ?_; rintro e w1 ⟨rfl, hl1⟩)
          go_end0
          exact ⟨rfl, by rw [hnum.out]; exact hfin.out _ _ _ hl1⟩
        · have hw9 : 8 < width := by omega
          have hd9 : decide (width ≤ 8) = false := by simp; omega
          go_wp2_with (go_at_call 70; refine (put_any _ _ _ [be n 8] wb v room l bad false _ (HW'.out.alloc _) (HP0.out _ _ (by omega)) HTO.out hl).mono ?_; rintro e w1 ⟨rfl, hl1⟩)
          go_end0
          exact ⟨rfl, by rw [hnum.out]; exact hfin.out _ _ _ hl1⟩

end Go.Proofs.YtkacmgfehmjijaaGreatDoor.Wr

namespace Go.Proofs.YtkacmgfehmjijaaGreatDoor.Rdr
open Go.RowKit Go.Mir Go.Mir.Parts

theorem EType.left {w w' : World} {base rb : Nat} {s s' : RD} (h : EType w) (hr : RAt w base rb s) (hl : LeftR base rb s' w w') (hb : 0 < base) : EType w' :=
  h.below (hl.belowB hr (Nat.le_refl _)) hb
/-! ### the bytes of a number -/
def numB (n : Nat) : Nat → List UInt8
  | 0 => []
  | k + 1 => UInt8.ofNat (n / 256 ^ k) :: numB n k
theorem numB_len (n k : Nat) : (numB n k).length = k := by induction k with
  | zero => rfl
  | succ k ih => simp [numB, ih]
theorem beN_fold (l : List UInt8) : ∀ a, l.foldl (fun a b => 256 * a + b.toNat) a = a * 256 ^ l.length + beN l := by
  induction l with
  | nil => intro a; simp [beN]
  | cons b l ih =>
    intro a
    show List.foldl _ (256 * a + b.toNat) l = _
    have h2 : beN (b :: l) = List.foldl (fun a b => 256 * a + b.toNat) (256 * 0 + b.toNat) l := rfl
    rw [h2, ih, ih, List.length_cons, Nat.pow_succ, Nat.add_mul, Nat.mul_zero, Nat.zero_add, Nat.mul_comm 256 a, Nat.mul_assoc, Nat.mul_comm 256 (256 ^ l.length), Nat.add_assoc]
theorem beN_numB (n k : Nat) : beN (numB n k) = n % 256 ^ k := by
  induction k with
  | zero => simp [numB, beN, Nat.mod_one]
  | succ k ih =>
    show List.foldl _ (256 * 0 + (UInt8.ofNat (n / 256 ^ k)).toNat) (numB n k) = _
    rw [beN_fold, numB_len, ih, Nat.mul_zero, Nat.zero_add, UInt8.toNat_ofNat']
    rw [show (2 : Nat) ^ 8 = 256 from rfl, Nat.pow_succ, Nat.mod_mul, Nat.mul_comm (n / 256 ^ k % 256), Nat.add_comm]
theorem numB_drop (n : Nat) : ∀ k j, j ≤ k → (numB n k).drop j = numB n (k - j) := by
  intro k
  induction k with
  | zero => intro j hj; simp [numB]
  | succ k ih =>
    intro j hj
    cases j with
    | zero => rfl
    | succ j => rw [show k + 1 - (j + 1) = k - j by omega, ← ih j (by omega)]; rfl
theorem numB_at (n k j : Nat) (h : j < k) : (numB n k)[j]? = some (UInt8.ofNat (n / 256 ^ (k - 1 - j))) := by
  have h1 := numB_drop n k j (by omega)
  have h2 : ((numB n k).drop j)[0]? = (numB n k)[j]? := by rw [List.getElem?_drop, Nat.add_zero]
  rw [← h2, h1, show k - j = (k - 1 - j) + 1 by omega]
  rfl
def NumBP (l : List UInt8) (w : World) (e : Ending) (w' : World) : Prop := ∃ p c, e = .returned (.slice p l.length c) ∧ w'.ownsRow w.heap.size 5 1 (.slice p l.length c) l.length (bytesV l) ∧ Below w.heap.size w w'
set_option maxRecDepth 100000 in
theorem number_any (w : World) (n k : Nat) (hn : n < 18446744073709551616) (hk : k ≤ 8) :
    Calls Tryz.prog 73 #[.int .u64 (n : Int), .int .i64 (k : Int)] w (NumBP (numB n k) w) := by
  have HLN := Lib.hid (numB_len n k)
  have hw1 : IntKind.i64.wrap ((k : Int) - 1) = (k : Int) - 1 := IntWalk.i64_in _ (by omega)
  go_enter Tryz.func73, Tryz.ntmps73
  go_wp2_with fail
  go_loopw [5, 6] (fun v i wr => ∃ (j : Nat) (p : Option Addr) (c : Nat), j ≤ k ∧ v = .slice p j c ∧ i = .int .i64 ((k : Int) - 1 - (j : Int)) ∧ wr.ownsRow w.heap.size 5 1 (.slice p j c) j (bytesV ((numB n k).take j)) ∧ Below w.heap.size w wr) (fun v _ _ => match v with | .slice _ j _ => k - j | _ => 0)
  case atStart => exact ⟨0, none, 0, by omega, rfl, by simp, ⟨rfl, .inl ⟨rfl, rfl⟩⟩, Below.refl _ _⟩
  case round =>
    obtain ⟨j, p, c, hj, rfl, rfl, hown, hbw⟩ := hrel
    have HOW := Lib.hid hown
    have HBW := Lib.hid hbw
    clear hown hbw
    by_cases hlt : j < k
    · have hd : decide ((0 : Int) ≤ (k : Int) - 1 - (j : Int)) = true := decide_eq_true (by omega)
      obtain ⟨i, hi⟩ : ∃ i : Nat, (i : Int) = (k : Int) - 1 - (j : Int) := ⟨k - 1 - j, by omega⟩
      rw [← hi] at hd ⊢
      have hi7 : i ≤ 7 := by omega
      have HTK := Lib.hid (numB_at n k j hlt)
      have HYV : Hid (((n : Int) / 2 ^ (8 * (k - 1 - j)) % 256) = ((UInt8.ofNat (n / 256 ^ (k - 1 - j))).toNat : Int)) := by
        show _ = _
        rw [UInt8.toNat_ofNat', show (2 : Nat) ^ 8 = 256 from rfl, show (256 : Nat) = 2 ^ 8 from rfl, ← Nat.pow_mul]
        simp
      have HTS : Hid ((numB n k).take (j + 1) = (numB n k).take j ++ [UInt8.ofNat (n / 256 ^ (k - 1 - j))]) := by
        have := take_snoc (numB n k) j (by rw [HLN.out]; exact hlt)
        rw [List.getElem?_eq_getElem (by rw [HLN.out]; exact hlt)] at HTK
        show _ = _
        rw [this, Option.some.inj HTK.out]
      generalize UInt8.ofNat (n / 256 ^ (k - 1 - j)) = y at *
      have HSL : Hid (Bs (wr.alloc (.cells #[.int .u8 ((n : Int) / 2 ^ (8 * (k - 1 - j)) % 256)] 5)) (some ⟨wr.heap.size, 0, none⟩) 1 1 [y]) := Bs.made wr [y] _ _ (0, 0) 1 (by rw [HYV.out]; rfl) rfl (by omega)
      have HO5 : Hid ((wr.alloc (.cells #[.int .u8 ((n : Int) / 2 ^ (8 * (k - 1 - j)) % 256)] 5)).ownsRow w.heap.size 5 1 (.slice p j c) j (bytesV ((numB n k).take j))) := HOW.out.alloc _
      have HSZ : Hid (w.heap.size ≤ (wr.alloc (.cells #[.int .u8 ((n : Int) / 2 ^ (8 * (k - 1 - j)) % 256)] 5)).heap.size) := by have := HBW.out.size; show _ ≤ _; simp; omega
      go_wp2_with (at_builtin; refine wpList_append_nx rfl _ _ 31 rfl (base := w.heap.size) Tryz.underlying31 info8 rfl (by omega) rfl HO5.out rfl HSL.out (bytesV_one _) (by omega) HSZ.out ?_)
      intro p' c' w5 hown hg hnx hne
      have HO6 := Lib.hid hown
      have hb5 : Below w.heap.size w w5 := (HBW.out.alloc HBW.out.size _).grown hg HSZ.out (fun i hi => (HO5.out.lt i hi).1)
      have HB5 := Lib.hid hb5
      have hwi : IntKind.i64.wrap ((i : Int) - 1) = (i : Int) - 1 := IntWalk.i64_in _ (by omega)
      clear hown hg hnx hne hb5
      go_wp2_with fail
      go_roundw
      case rel => exact ⟨j + 1, p', c', by omega, rfl, by congr 1; omega, by have := HO6.out; rw [HTS.out, bytesV_append]; exact this, HB5.out⟩
      case measure => simp; omega
    · obtain rfl : j = k := by omega
      have hd : decide ((0 : Int) ≤ (j : Int) - 1 - (j : Int)) = false := decide_eq_false (by omega)
      have hfull : (numB n j).take j = numB n j := List.take_of_length_le (by rw [HLN.out]; omega)
      rw [hfull] at HOW
      have HF : Hid (NumBP (numB n j) w (.returned (.slice p j c)) wr) := ⟨p, c, by rw [HLN.out], by rw [HLN.out]; exact HOW.out, HBW.out⟩
      go_wp2_with fail
      go_ret
      exact HF.out

theorem fits_k {k : Nat} (h : 1 ≤ k ∧ k ≤ 8) : fitsW (k : Int) = true := by unfold fitsW; simp; omega
theorem num_new {A B : List UInt8} {k : Nat} (hk : 1 ≤ k ∧ k ≤ 8) (hA : A.length = k) : RD.numV (RD.new (A ++ B)) (k : Int) = beN A ∧ RD.numS (RD.new (A ++ B)) (k : Int) = ⟨A ++ B, k, none⟩ := by
  have hf := fits_k hk
  constructor
  · unfold RD.numV RD.takeB RD.new
    rw [hf, if_pos ⟨rfl, rfl, by omega, by simp; omega⟩]
    rw [show ((k : Int)).toNat = A.length by omega, List.drop_zero, List.take_left]
  · unfold RD.numS RD.takeS RD.new
    rw [hf, if_neg (by simp), if_neg (by rintro (h | h); (· cases h); (· omega)), if_neg (by simp; omega)]
    simp
theorem num_next {A B : List UInt8} {k : Nat} (hk : 1 ≤ k ∧ k ≤ 8) (hA : A.length = k) (hB : B.length = k) : RD.numV ⟨A ++ B, k, none⟩ (k : Int) = beN B ∧ RD.numS ⟨A ++ B, k, none⟩ (k : Int) = ⟨A ++ B, k + k, none⟩ := by
  have hf := fits_k hk
  constructor
  · unfold RD.numV RD.takeB
    rw [hf, if_pos ⟨rfl, rfl, by omega, by simp; omega⟩]
    rw [show ((k : Int)).toNat = B.length by omega]
    dsimp only
    rw [← hA, List.drop_left, List.take_length]
  · unfold RD.numS RD.takeS
    rw [hf, if_neg (by simp), if_neg (by rintro (h | h); (· cases h); (· omega)), if_neg (by simp; omega)]
    simp
end Go.Proofs.YtkacmgfehmjijaaGreatDoor.Rdr

namespace Go.Proofs.YtkacmgfehmjijaaGreatDoor.Cod
open Go.RowKit Go.Mir Go.Mir.Parts Wr

theorem take_in {l : List UInt8} {pos m : Nat} (h : pos + m ≤ l.length) : Rdr.RD.takeB ⟨l, pos, none⟩ (m : Int) true = (l.drop pos).take m ∧ Rdr.RD.takeS ⟨l, pos, none⟩ (m : Int) true = ⟨l, pos + m, none⟩ := by
  constructor
  · unfold Rdr.RD.takeB
    rw [if_pos ⟨rfl, rfl, by omega, by dsimp only; omega⟩]
    rfl
  · unfold Rdr.RD.takeS
    rw [if_neg (by simp), if_neg (by rintro (h | h); (· cases h); (· omega)), if_neg (by dsimp only; omega)]
    rfl
/-! ### plain: what is written -/
def Inv2 (R : Nat) (E l : List UInt8) (bad : Int) : Prop := l.length ≤ R ∧ ((bad = 0 ∧ l = E) ∨ (bad = 3 ∧ R < E.length))
theorem Inv2.nil (R : Nat) : Inv2 R [] [] 0 := ⟨by simp, .inl ⟨rfl, rfl⟩⟩
theorem Inv2.put {R : Nat} {E l : List UInt8} {bad : Int} (h : Inv2 R E l bad) (ps : List (List UInt8)) : Inv2 R (E ++ ps.flatten) (putS R l bad true ps).1 (putS R l bad true ps).2 := by
  obtain ⟨h1, h2⟩ := h
  unfold putS
  rw [← total_flatten]
  rcases h2 with ⟨rfl, rfl⟩ | ⟨rfl, h2⟩
  · rw [if_pos rfl, if_pos rfl]
    by_cases ht : ps.flatten.length ≤ R - l.length
    · rw [if_pos ht]
      exact ⟨by rw [List.length_append]; omega, .inl ⟨rfl, rfl⟩⟩
    · rw [if_neg ht]
      exact ⟨h1, .inr ⟨rfl, by rw [List.length_append]; omega⟩⟩
  · rw [if_neg (by decide)]
    exact ⟨h1, .inr ⟨rfl, by rw [List.length_append]; omega⟩⟩
theorem Inv2.one {R : Nat} {E l : List UInt8} {bad : Int} (h : Inv2 R E l bad) (b : List UInt8) : Inv2 R (E ++ b) (putS R l bad true [b]).1 (putS R l bad true [b]).2 := by
  have := h.put [b]
  simpa using this
theorem Inv2.num {R : Nat} {E l : List UInt8} {bad : Int} (h : Inv2 R E l bad) (n k : Nat) (h1 : 1 ≤ k) (h8 : k ≤ 8) (hn : n < 2 ^ (8 * k)) : Inv2 R (E ++ be n k) (numS R l bad n (k : Int)).1 (numS R l bad n (k : Int)).2 := by
  unfold numS
  rw [if_pos ⟨by omega, by omega, .inr (by simpa using hn)⟩]
  exact h.one _
theorem flat32 : ∀ (ids : List (List UInt8)), (∀ x ∈ ids, x.length = 32) → ids.flatten.length = 32 * ids.length
  | [], _ => rfl
  | x :: r, h => by
    have h1 := h x (by simp)
    have h2 := flat32 r (fun y hy => h y (by simp [hy]))
    simp only [List.flatten_cons, List.length_append, List.length_cons]; omega
/-! ### plain: what is read -/
theorem take_rest {E x r : List UInt8} {pos : Nat} (hp : pos ≤ E.length) (h : E.drop pos = x ++ r) :
    Rdr.RD.takeB ⟨E, pos, none⟩ (x.length : Int) true = x ∧ Rdr.RD.takeS ⟨E, pos, none⟩ (x.length : Int) true = ⟨E, pos + x.length, none⟩ ∧ E.drop (pos + x.length) = r ∧ pos + x.length ≤ E.length := by
  have hl := congrArg List.length h
  rw [List.length_drop, List.length_append] at hl
  have hle : pos + x.length ≤ E.length := by omega
  obtain ⟨h1, h2⟩ := take_in hle
  refine ⟨by rw [h1, h, List.take_left], h2, by rw [← List.drop_drop, h, List.drop_left], hle⟩
theorem be_numB (n k : Nat) (hk : k ≤ 8) : be n k = Rdr.numB n k := by
  apply List.ext_getElem?
  intro j
  by_cases hj : j < k
  · rw [Rdr.numB_at n k j hj]
    unfold be nb
    rw [List.getElem?_map, List.getElem?_range hj]
    simp only [Option.map_some]
    rw [show 7 - (8 - k + j) = k - 1 - j by omega, Nat.pow_mul]
  · rw [List.getElem?_eq_none (by rw [be_length]; omega), List.getElem?_eq_none (by rw [Rdr.numB_len]; omega)]
theorem num_rest {E r : List UInt8} {pos n k : Nat} (hp : pos ≤ E.length) (h : E.drop pos = be n k ++ r) (h1 : 1 ≤ k) (h8 : k ≤ 8) (hn : n < 256 ^ k) :
    Rdr.RD.numV ⟨E, pos, none⟩ (k : Int) = n ∧ Rdr.RD.numS ⟨E, pos, none⟩ (k : Int) = ⟨E, pos + k, none⟩ ∧ E.drop (pos + k) = r ∧ pos + k ≤ E.length := by
  obtain ⟨a, b, c, d⟩ := take_rest hp h
  rw [be_length] at a b c d
  have hf : Rdr.fitsW (k : Int) = true := by unfold Rdr.fitsW; rw [decide_eq_true (by omega), decide_eq_true (by omega)]; rfl
  refine ⟨?_, ?_, c, d⟩
  · unfold Rdr.RD.numV
    rw [hf, a, be_numB _ _ h8, Rdr.beN_numB, Nat.mod_eq_of_lt hn]
  · unfold Rdr.RD.numS
    rw [hf, b]
theorem cnt_rest {E r : List UInt8} {pos n k m : Nat} (hp : pos ≤ E.length) (h : E.drop pos = be n k ++ r) (h1 : 1 ≤ k) (h8 : k ≤ 8) (hn : n < 256 ^ k) (hm : n ≤ m) :
    Rdr.RD.cntV ⟨E, pos, none⟩ (k : Int) (m : Int) = n ∧ Rdr.RD.cntS ⟨E, pos, none⟩ (k : Int) (m : Int) = ⟨E, pos + k, none⟩ ∧ E.drop (pos + k) = r ∧ pos + k ≤ E.length := by
  obtain ⟨a, b, c, d⟩ := num_rest hp h h1 h8 hn
  have hS : Rdr.RD.cntS ⟨E, pos, none⟩ (k : Int) (m : Int) = ⟨E, pos + k, none⟩ := by
    unfold Rdr.RD.cntS
    rw [a, if_neg (by omega), b]
  refine ⟨?_, hS, c, d⟩
  unfold Rdr.RD.cntV
  rw [hS, if_pos rfl, a]
/-- a row of ids, one behind the other -/
def chunks (L : List UInt8) (k : Nat) : List (List UInt8) := (List.range k).map fun i => (L.drop (32 * i)).take 32
theorem chunks_flat (L : List UInt8) : ∀ k, (chunks L k).flatMap bytesV = bytesV (L.take (32 * k))
  | 0 => rfl
  | k + 1 => by
    have ih := chunks_flat L k
    unfold chunks at ih ⊢
    rw [List.range_succ, List.map_append, List.flatMap_append, ih, Nat.mul_add, List.take_add, bytesV_append]
    simp
theorem chunks_of : ∀ (ids : List (List UInt8)), (∀ x ∈ ids, x.length = 32) → chunks ids.flatten ids.length = ids
  | [], _ => rfl
  | x :: r, h => by
    have hx := h x (by simp)
    have ih := chunks_of r (fun y hy => h y (by simp [hy]))
    unfold chunks at ih ⊢
    rw [List.length_cons, List.range_succ_eq_map, List.map_cons, List.map_map, List.flatten_cons]
    congr 1
    · rw [Nat.mul_zero, List.drop_zero, ← hx, List.take_left]
    · rw [← ih]
      simp only [ih]
      refine Eq.trans (List.map_congr_left fun i _ => ?_) ih
      show ((x ++ r.flatten).drop (32 * (i + 1))).take 32 = _
      rw [show 32 * (i + 1) = x.length + 32 * i by rw [hx]; omega, ← List.drop_drop, List.drop_left]

theorem numB_beN : ∀ (l : List UInt8), Rdr.numB (Rdr.beN l) l.length = l
  | [] => rfl
  | b :: l => by
    have h1 : Rdr.beN (b :: l) = b.toNat * 256 ^ l.length + Rdr.beN l := by
      show List.foldl _ (256 * 0 + b.toNat) l = _
      rw [Rdr.beN_fold]; simp
    have h2 := Rdr.beN_lt_pow l
    have h3 : Rdr.beN (b :: l) / 256 ^ l.length = b.toNat := by
      rw [h1, Nat.add_comm, Nat.mul_comm, Nat.add_mul_div_left _ _ (Nat.pow_pos (by omega)), Nat.div_eq_of_lt h2, Nat.zero_add]
    have h4 : ∀ (k n m : Nat), m < 256 ^ k → Rdr.numB (n * 256 ^ k + m) k = Rdr.numB m k := fun k n m hm => by
      apply List.ext_getElem?
      intro j
      by_cases hj : j < k
      · rw [Rdr.numB_at _ _ _ hj, Rdr.numB_at _ _ _ hj]
        congr 1
        have e : 256 ^ k = 256 ^ (k - 1 - j) * 256 ^ (j + 1) := by rw [← Nat.pow_add]; congr 1; omega
        have e2 : (n * 256 ^ k + m) / 256 ^ (k - 1 - j) = n * 256 ^ (j + 1) + m / 256 ^ (k - 1 - j) := by
          rw [e, show n * (256 ^ (k - 1 - j) * 256 ^ (j + 1)) = 256 ^ (k - 1 - j) * (n * 256 ^ (j + 1)) by rw [Nat.mul_left_comm], Nat.add_comm, Nat.add_mul_div_left _ _ (Nat.pow_pos (by omega)), Nat.add_comm]
        rw [e2]
        apply UInt8.toNat_inj.1
        rw [UInt8.toNat_ofNat', UInt8.toNat_ofNat', Nat.pow_succ, ← Nat.mul_assoc]
        omega
      · rw [List.getElem?_eq_none (by rw [Rdr.numB_len]; omega), List.getElem?_eq_none (by rw [Rdr.numB_len]; omega)]
    show UInt8.ofNat (Rdr.beN (b :: l) / 256 ^ l.length) :: Rdr.numB (Rdr.beN (b :: l)) l.length = b :: l
    rw [h3, h1, h4 _ _ _ h2, numB_beN l]
    simp
theorem be_beN (l : List UInt8) (k : Nat) (hl : l.length = k) (hk : k ≤ 8) : be (Rdr.beN l) k = l := by
  rw [be_numB _ _ hk]
  subst hl
  exact numB_beN l
theorem beN_be (n k : Nat) (hk : k ≤ 8) (hn : n < 256 ^ k) : Rdr.beN (be n k) = n := by
  rw [be_numB _ _ hk, Rdr.beN_numB, Nat.mod_eq_of_lt hn]
/-! ### a writer as it goes on -/
structure WS (w : World) (wb : Nat) (R : Nat) (E : List UInt8) (x : World) : Prop where
  all : ∃ v l bad, WAt x wb v R l bad ∧ Inv2 R E l bad ∧ (∀ i, foot wb v i → w.heap.size ≤ i) ∧ Below w.heap.size w x
theorem WS.low {w x : World} {wb R : Nat} {E : List UInt8} (h : WS w wb R E x) : Below w.heap.size w x := by
  obtain ⟨_, _, _, _, _, _, h4⟩ := h.all
  exact h4
theorem WS.step {w x y : World} {wb R : Nat} {v : Value} {r : List UInt8 × Int} {E' : List UInt8} (h3 : ∀ i, foot wb v i → w.heap.size ≤ i) (h4 : Below w.heap.size w x) (hl : Wr.Left wb v R r x y) (hi : Inv2 R E' r.1 r.2) : WS w wb R E' y := by
  obtain ⟨v', h1, h2, h5⟩ := hl
  refine ⟨v', _, _, h1, hi, fun i hi' => ?_, h4.trans (h2.below h4.size h3)⟩
  rcases hi' with rfl | hi'
  · exact h3 _ (.inl rfl)
  · rcases Nat.lt_or_ge i x.heap.size with h6 | h6
    · exact h3 _ (.inr (h5 i hi' h6))
    · have := h4.size; omega
theorem WS.turn {w x y : World} {wb : Nat} {v : Value} (h3 : ∀ i, foot wb v i → w.heap.size ≤ i) (h4 : Below w.heap.size w x) (ht : Turns (foot wb v) x y) : Below w.heap.size w y := h4.trans (ht.below h4.size h3)
theorem ws_new (w x : World) (hx : Below w.heap.size w x) (R : Nat) (hR : R ≤ 1000000) :
    Calls Tryz.prog 56 #[.int .i64 (R : Int)] x fun e y => e = .returned (.pointer (some ⟨x.heap.size, 0, none⟩)) ∧ WS w x.heap.size R [] y ∧ Below x.heap.size x y := by
  refine (Wr.new_any (R : Int) x (by omega)).mono ?_
  rintro e y ⟨rfl, hw, hb⟩
  rw [Int.toNat_natCast] at hw
  refine ⟨rfl, ⟨_, _, _, hw, Inv2.nil R, fun i hi => ?_, hx.trans (hb.mono hx.size)⟩, hb⟩
  rcases hi with rfl | hi
  · exact hx.size
  · simp [Value.ownBlock] at hi
theorem ws_num {w x : World} {wb R : Nat} {E : List UInt8} (h : WS w wb R E x) (hR : R ≤ 1000000) (n k : Nat) (h1 : 1 ≤ k) (h8 : k ≤ 8) (hn : n < 2 ^ (8 * k)) (hn2 : n < 18446744073709551616) :
    Calls Tryz.prog 58 #[.pointer (some ⟨wb, 0, none⟩), .int .u64 (n : Int), .int .i64 (k : Int)] x fun e y => e = .returned (.tuple #[]) ∧ WS w wb R (E ++ be n k) y := by
  obtain ⟨v, l, bad, ha, hv, h3, h4⟩ := h.all
  refine (Wr.num_any n k wb v R l bad x ha hn2 (by omega) (by omega) (by have := hv.1; omega)).mono ?_
  rintro e y ⟨rfl, hl⟩
  exact ⟨rfl, WS.step h3 h4 hl (hv.num n k h1 h8 hn)⟩
theorem ws_bytes {w x : World} {wb R : Nat} {E : List UInt8} (h : WS w wb R E x) (hR : R ≤ 1000000) (p : Option Addr) (n c : Nat) (b : List UInt8) (hB : Bs w p n c b) (hb : b.length ≤ 70368744177664) :
    Calls Tryz.prog 61 #[.pointer (some ⟨wb, 0, none⟩), .slice p n c] x fun e y => e = .returned (.tuple #[]) ∧ WS w wb R (E ++ b) y := by
  obtain ⟨v, l, bad, ha, hv, h3, h4⟩ := h.all
  refine (Wr.bytes_any p n c b wb v R l bad x ha (fun w' ht => hB.below (WS.turn h3 h4 ht)) hb (by have := hv.1; omega)).mono ?_
  rintro e y ⟨rfl, hl⟩
  exact ⟨rfl, WS.step h3 h4 hl (hv.one b)⟩
/-- where all fits -/
theorem ws_done {w x : World} {wb R : Nat} {E : List UInt8} (h : WS w wb R E x) (hR : R ≤ 1000000) (hE : E.length ≤ R) :
    Calls Tryz.prog 59 #[.pointer (some ⟨wb, 0, none⟩)] x fun e y => (∃ p c, e = .returned (.tuple #[.slice p E.length c, .int .i64 0]) ∧ y.ownsRow x.heap.size 5 1 (.slice p E.length c) E.length (bytesV E)) ∧ WS w wb R E y ∧ Below x.heap.size x y := by
  obtain ⟨v, l, bad, ha, hv, h3, h4⟩ := h.all
  refine (Wr.done_any wb v R l bad x ha (by have := hv.1; omega)).mono ?_
  rintro e y ⟨⟨p, n, c, rfl, ho⟩, hb⟩
  rcases hv.2 with ⟨rfl, rfl⟩ | ⟨_, h'⟩
  · rw [if_pos rfl] at ho
    obtain ⟨p', c', he, hs⟩ := own_sl ho
    cases he
    have hn := Bs.length (show Bs y p n c l from hs)
    subst hn
    exact ⟨⟨p, c, rfl, ho⟩, ⟨v, l, 0, ha.touch (Turns.of_below (S := fun _ => False) hb) (fun _ _ h => h), hv, h3, h4.trans (hb.mono h4.size)⟩, hb⟩
  · omega
/-! ### a reader as it goes on -/
theorem rd_num {base rb : Nat} {E r : List UInt8} {pos n k : Nat} (w : World) (h : Rdr.RAt w base rb ⟨E, pos, none⟩) (hd : E.drop pos = be n k ++ r) (h1 : 1 ≤ k) (h8 : k ≤ 8) (hn : n < 256 ^ k) :
    Calls Tryz.prog 82 #[.pointer (some ⟨rb, 0, none⟩), .int .i64 (k : Int)] w fun e w' => e = .returned (.int .u64 (n : Int)) ∧ Rdr.LeftR base rb ⟨E, pos + k, none⟩ w w' := by
  obtain ⟨a, b, _, _⟩ := num_rest (by obtain ⟨v, bv, h'⟩ := h; exact h'.at1) hd h1 h8 hn
  refine (Rdr.num_any w h (k : Int) (by omega)).mono ?_
  rintro e w' ⟨rfl, hl⟩
  rw [b] at hl
  exact ⟨by rw [a], hl⟩
theorem rd_bytes {base rb : Nat} {E x r : List UInt8} {pos : Nat} (w : World) (h : Rdr.RAt w base rb ⟨E, pos, none⟩) (hd : E.drop pos = x ++ r) (hx : x.length ≤ 1000000) :
    Calls Tryz.prog 85 #[.pointer (some ⟨rb, 0, none⟩), .int .i64 (x.length : Int)] w fun e w' => ∃ p c, e = .returned (.slice p x.length c) ∧ w'.ownsRow w.heap.size 5 1 (.slice p x.length c) x.length (bytesV x) ∧ Rdr.LeftR base rb ⟨E, pos + x.length, none⟩ w w' := by
  obtain ⟨a, b, _, _⟩ := take_rest (by obtain ⟨v, bv, h'⟩ := h; exact h'.at1) hd
  refine (Rdr.bytes_any w h (x.length : Int) (by omega)).mono ?_
  rintro e w' ⟨p, c, he, ho, hl⟩
  rw [a] at he ho
  rw [b] at hl
  exact ⟨p, c, he, ho, hl⟩
end Go.Proofs.YtkacmgfehmjijaaGreatDoor.Cod
