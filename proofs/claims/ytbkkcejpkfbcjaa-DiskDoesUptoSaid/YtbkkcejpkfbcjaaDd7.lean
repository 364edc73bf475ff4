/- PARTS, JOINED: THE REFERENCE'S DISK: Append, Cut. Conditions: sizes that fit. THE REFERENCE'S DISK: Crash. Conditions: sizes that fit. THE CALLS OF A STATEMENT ON DISKS, as they lie in memory; are there not too many? Conditions: none. CALLS PLAYED, one behind the other. Conditions: none. LAYER 18: the document's example. Conditions: none. THE WALK OF CALLS PLAYED. Conditions: none. A DISK BESIDE OTHER MEMORY (for a seat that has neither rolls nor frames: the same as XRolK, without these). Conditions: none. BOTH DISKS: calls to whatever file and of whatever size, and their answers, in the document's way and in the program's. Conditions: sizes that fit. THE CALLS OF A STATEMENT ON DISKS: what they hold together; are there not too many? Conditions: a sum that fits. -/
import Derived.Test.YtbkkcejpkfbcjaaDd1
import Derived.Test.YtbkkcejpkfbcjaaDd2
import Derived.Test.YtbkkcejpkfbcjaaDd3
import Derived.Test.YtbkkcejpkfbcjaaDd4
import Derived.Test.YtbkkcejpkfbcjaaDd5
import Derived.Test.YtbkkcejpkfbcjaaDd6
namespace Go.Proofs.Ytbkkcejpkfbcjaa.Rk
open Go.RowKit Go.Mir Go.Mir.Parts Dk

set_option maxRecDepth 100000 in
set_option maxHeartbeats 1600000 in
theorem rcut_of (ts : List RF) (d d' : DD) (ev : Int) (i z : Int) (w : World) (h1 : ts.length = 3) (h2 : d.fs.length = 3)
    (HD : ∀ w1, Below w.heap.size w w1 → Calls Try.prog 37 #[.agg (rdA ts d), .int .i64 i, .agg #[.bool true, .int .i64 z, .slice none 0 0]] w1 (ROut d' ev w1)) :
    Calls Try.prog 14 #[.agg (rdA ts d), .int .i64 i, .int .i64 z] w (ROut d' ev w) := by
  have hz := zeroD
  obtain ⟨q1, q2, q3, q4⟩ := boxes w ts d
  have HROW := Lib.hid q1
  have HZX := Lib.hid q2
  have HLOW := Lib.hid q4
  clear q1 q2 q3 q4
  have HDO := Lib.hid HD
  have H1 := Lib.hid h1
  have H2 := Lib.hid h2
  clear HD h1 h2
  go_enter Try.func14, Try.ntmps14
  go_upto_region 1 with fail
  generalize (w.alloc (.cells (rdA ts d) 37)).alloc (.cells zD 37) = w2 at *
  go_wp2_with (refine wpList_load_row rfl 37 _ rfl w.heap.size rfl 37 (rdA ts d) (0, 0) _ HROW.out Try.underlying37 rfl (infoRD _ (rdA_size H1.out H2.out)) ?_)
  refine (HDO.out _ HLOW.out).mono ?_
  rintro e y1 ⟨TS, rfl, hrd, hy1⟩
  have HQ := Lib.hid hrd
  have hz1 := Below.keepOld hy1 HZX.out
  have hl1 := HLOW.out.trans (hy1.mono HLOW.out.size)
  clear HZX HLOW hy1 HDO hrd HROW
  have HZX := Lib.hid hz1
  have HLOW := Lib.hid hl1
  clear hz1 hl1
  go_wp2_with (refine wpList_store_row rfl 37 _ _ rfl (w.heap.size + 1) (rdA TS d') rfl rfl 37 zD HZX.out (infoRD _ (rdA_size HQ.out.n3 HQ.out.m3)) (by rw [rdA_size HQ.out.n3 HQ.out.m3]; rfl) (rdA_one HQ.out.n3 HQ.out.m3) ?_)
  have HS := Lib.hid (setRow_heap _ _ _ (rdA TS d') _ _ HZX.out)
  refine bodyPost_ret (results_cell_tmp2 rfl _ _ _ _ _ _ _ rfl HS.out Try.underlying37 rfl (infoRD _ (rdA_size HQ.out.n3 HQ.out.m3))) rfl ?_
  exact ⟨TS, rfl, HQ.out.step (KR.of_turn (turns_setRow _ _ _) HZX.out), below_setRow HLOW.out (by omega) _⟩
set_option maxRecDepth 100000 in
set_option maxHeartbeats 1600000 in
theorem rappend_of (ts : List RF) (d d' : DD) (ev : Int) (i : Int) (p : Option Addr) (B : List UInt8) (c : Nat) (w : World) (h1 : ts.length = 3) (h2 : d.fs.length = 3) (hb : Bs w p B.length c B) (hl : B.length ≤ 140737488355327)
    (HD : ∀ w1 q k, Below w.heap.size w w1 → (∀ y, KR 0 w1 y → Bs y q B.length k B) → Calls Try.prog 37 #[.agg (rdA ts d), .int .i64 i, .agg #[.bool false, .int .i64 0, .slice q B.length k]] w1 (ROut d' ev w1)) :
    Calls Try.prog 13 #[.agg (rdA ts d), .int .i64 i, .slice p B.length c] w (ROut d' ev w) := by
  have hz := zeroD
  obtain ⟨q1, q2, q3, q4⟩ := boxes w ts d
  have HROW := Lib.hid q1
  have HZX := Lib.hid q2
  have HLOW := Lib.hid q4
  clear q1 q2 q3 q4
  have HDO := Lib.hid HD
  have H1 := Lib.hid h1
  have H2 := Lib.hid h2
  have HBS := Lib.hid (hb.below HLOW.out)
  clear HD h1 h2 hb
  go_enter Try.func13, Try.ntmps13
  go_upto_region 1 with fail
  generalize (w.alloc (.cells (rdA ts d) 37)).alloc (.cells zD 37) = w2 at *
  have HLA : Hid (∀ w', Below w2.heap.size w2 w' → w'.rangeAt w.heap.size 0 (rdA ts d).toList) := fun w' hb => row_rangeR (Below.keepOld hb HROW.out)
  refine wp_region_eager_t (Below w2.heap.size w2) [0, 1, 3, 5, 7, 8] [(0, true), (1, true), (3, true), (2, false), (4, false), (5, true), (6, false), (7, true), (8, true)] [9, 10] (by kernel_rfl) (by kernel_rfl) ?_ (eagerTOpen rfl ?_)
  · exact below_drew1 _ _
  have hy0 : Below w2.heap.size w2 w2.drew := below_drew1 _ _
  repeat (first
    | ((with_reducible refine eagerTLoadAt 3 ?_); refine wpEagerT_load (by rfl) 37 _ rfl w.heap.size 0 rfl (rdA ts d) _ (fun w' hb => HLA.out w' hb) Try.underlying37 rfl (infoRD _ (rdA_size H1.out H2.out)) ?_; (try simp only [Act.put, List.setIfInBounds_toArray, List.set_cons_zero, List.set_cons_succ]); (try refine eagerTOpen rfl ?_))
    | (first | (apply wpEagerT_take; (· rfl); (· (intro w' hb'; go_simp; try with_reducible rfl)); (try simp only [Act.put, List.setIfInBounds_toArray, List.set_cons_zero, List.set_cons_succ]); (try refine eagerTOpen rfl ?_)) | (refine wpEagerT_skip (by rfl) ?_; (try simp only [Act.put, List.setIfInBounds_toArray, List.set_cons_zero, List.set_cons_succ]); (try refine eagerTOpen rfl ?_))))
  have hs0 : w2.heap.size ≤ w2.drew.heap.size := hy0.size
  generalize w2.drew = wd at *
  have hb0 := hy0.alloc hs0 (.cells #[] 5)
  have o1 : (wd.alloc (.cells #[] 5)).ownsRow w2.heap.size 5 1 (.slice (some ⟨wd.heap.size, 0, none⟩) 0 0) 0 [] := own_made0 wd _ _ _ _ rfl hs0
  (refine wpEagerT_op (by rfl) (fun K hK => ?_); go_simp; (skip); refine Shut.out hK _ _ (by assumption) ?_; clear hK K; (try simp only [Act.put, List.setIfInBounds_toArray, List.set_cons_zero, List.set_cons_succ]); (try refine eagerTOpen rfl ?_))
  have hs1 : w2.heap.size ≤ (wd.alloc (.cells #[] 5)).heap.size := hb0.size
  generalize wd.alloc (.cells #[] 5) = wa at *
  (refine wpEagerT_op (by rfl) (fun K hK => oper_of_list rfl ?_))
  refine wpList_append_nx rfl _ _ 31 rfl (base := w2.heap.size) Try.underlying31 info8b rfl (by omega) rfl o1 rfl (HBS.out.below hb0) (bytesV_one _) ⟨by omega, by omega⟩ hs1 ?_
  intro p2 c2 w5 o2 hg2 _ _
  rw [Nat.zero_add] at *
  rw [List.nil_append] at o2
  have hb2 : Below w2.heap.size w2 w5 := hb0.grown hg2 hs1 (fun i hi => (o1.lt i hi).1)
  refine only_end (Shut.out hK _ _ hb2 ?_)
  clear hK K
  (try simp only [Act.put, List.setIfInBounds_toArray, List.set_cons_zero, List.set_cons_succ])
  (try refine eagerTOpen rfl ?_)
  have HO2 := Lib.hid o2
  clear o1 o2 hg2
  repeat (first | (apply wpEagerT_take; (· rfl); (· (intro w' hb'; go_simp; try with_reducible rfl)); (try simp only [Act.put, List.setIfInBounds_toArray, List.set_cons_zero, List.set_cons_succ]); (try refine eagerTOpen rfl ?_)) | (refine wpEagerT_skip (by rfl) ?_; (try simp only [Act.put, List.setIfInBounds_toArray, List.set_cons_zero, List.set_cons_succ]); (try refine eagerTOpen rfl ?_)))
  (refine wpEagerT_op (by rfl) (fun K hK => ?_); go_simp; (refine (HDO.out _ p2 c2 (HLOW.out.trans (hb2.mono HLOW.out.size)) (fun y hy => Cut.own_bs (hy.own HO2.out (fun h => h.1 rfl)))).mono ?_; rintro e y1 ⟨TS, rfl, hrd, hb⟩; have hy1 := hb2.trans (hb.mono hb2.size); clear hb); refine Shut.out hK _ _ (by assumption) ?_; clear hK K; (try simp only [Act.put, List.setIfInBounds_toArray, List.set_cons_zero, List.set_cons_succ]); (try refine eagerTOpen rfl ?_))
  have HQ := Lib.hid hrd
  clear hrd
  repeat (first | (apply wpEagerT_take; (· rfl); (· (intro w' hb'; go_simp; try with_reducible rfl)); (try simp only [Act.put, List.setIfInBounds_toArray, List.set_cons_zero, List.set_cons_succ]); (try refine eagerTOpen rfl ?_)) | (refine wpEagerT_skip (by rfl) ?_; (try simp only [Act.put, List.setIfInBounds_toArray, List.set_cons_zero, List.set_cons_succ]); (try refine eagerTOpen rfl ?_)))
  refine eagerTEnd (tail2 rfl rfl ?_)
  have hz1 := Below.keepOld hy1 HZX.out
  have hl1 := HLOW.out.trans (hy1.mono HLOW.out.size)
  clear HZX HLOW HLA hy0 hy1 HDO hb0 hb2 HO2 HBS
  have HZX := Lib.hid hz1
  have HLOW := Lib.hid hl1
  clear hz1 hl1
  skip
  -- the callee's disk is the result: world y, TS, d'
  go_wp2_with (refine wpList_store_row rfl 37 _ _ rfl (w.heap.size + 1) (rdA TS d') rfl rfl 37 zD HZX.out (infoRD _ (rdA_size HQ.out.n3 HQ.out.m3)) (by rw [rdA_size HQ.out.n3 HQ.out.m3]; rfl) (rdA_one HQ.out.n3 HQ.out.m3) ?_)
  refine noPanic_end ?_
  go_wp2_with fail
  have HS := Lib.hid (setRow_heap _ _ _ (rdA TS d') _ _ HZX.out)
  refine bodyPost_ret (results_cell_tmp2 rfl _ _ _ _ _ _ _ rfl HS.out Try.underlying37 rfl (infoRD _ (rdA_size HQ.out.n3 HQ.out.m3))) rfl ?_
  exact ⟨TS, rfl, HQ.out.step (KR.of_turn (turns_setRow _ _ _) HZX.out), below_setRow HLOW.out (by omega) _⟩
end Go.Proofs.Ytbkkcejpkfbcjaa.Rk

namespace Go.Proofs.Ytbkkcejpkfbcjaa.Rk
open Go.RowKit Go.Mir Go.Mir.Parts Dk

theorem rcr_neg {r A : Int} (h1 : -A < r) (h2 : r < A) (h : r < 0) : (r + A).tmod A = r + A := Int.tmod_eq_of_lt (by omega) (by omega)
theorem rcr_pos {r A : Int} (h2 : r < A) (h : ¬ r < 0) : (r + A).tmod A = r := by
  rw [Int.tmod_eq_emod_of_nonneg (by omega), Int.add_emod_right, Int.emod_eq_of_lt (by omega) h2]
theorem crashM_end {us : List Int} {d : DD} (h : d.fs.length = 3) : (⟨(crashM us d 3).fs, d.room, 0, false⟩ : DD) = crashD us d := by
  unfold crashM crashD
  rw [List.take_of_length_le (by omega), List.drop_eq_nil_of_le (by omega), List.append_nil]
theorem settle_set (f : FD) (u : Nat) {L : List UInt8} (h : someU f.kept f.steps u = L) : f.settle u = ⟨L, L, [], L.length⟩ := by unfold FD.settle; rw [h]
def CrOx (D : DD) (w : World) (e : Ending) (w' : World) : Prop := ∃ ts, e = .returned (.agg (rdA ts D)) ∧ RDB w' ts D ∧ Below w.heap.size w w'
set_option maxRecDepth 100000 in
set_option maxHeartbeats 12800000 in
theorem rcrash_any (ts : List RF) (d : DD) (us : List Int) (p : Option Addr) (c : Nat) (w : World) (h : RDB w ts d) (hN : Ns w p us.length c us) :
    Calls Try.prog 19 #[.agg (rdA ts d), .slice p us.length c] w (CrOx (crashD us d) w) := by
  have hz := zeroD
  obtain ⟨q1, q2, q3, q4⟩ := boxes w ts d
  have HQ0 : Hid (RQ w.heap.size w.heap.size ts d ((w.alloc (.cells (rdA ts d) 37)).alloc (.cells zD 37))) := RQ.of h q4 (Nat.le_refl _) q1
  have HZ0 := Lib.hid q2
  have HL0 := Lib.hid q4
  have HM3 := Lib.hid h.m3
  have HN := Lib.hid hN
  have hle := hN.sl.le
  have hmax := hN.sl.max
  clear q1 q2 q3 q4 h hN
  go_enter Try.func19, Try.ntmps19
  go_upto_region 1 with fail
  generalize (w.alloc (.cells (rdA ts d) 37)).alloc (.cells zD 37) = w2 at *
  go_wp2_with fail
  go_loopw [5, 6, 7] (fun i n a wr => ∃ k : Nat, k ≤ 3 ∧ i = .int .i64 k ∧ ∃ tk, RQ w.heap.size w.heap.size tk (crashM us d k) wr ∧ wr.heap[w.heap.size + 1]? = some (.cells zD 37 (0, 0)) ∧ Below w.heap.size w wr) (fun i _ _ _ => 3 - (intOf i).toNat)
  case atStart => exact ⟨0, by omega, rfl, ts, by rw [crashM_zero]; exact HQ0.out, HZ0.out, HL0.out⟩
  case round =>
    obtain ⟨k, hk, rfl, tk, hqr, hzr, hlr⟩ := hrel
    have HQX := Lib.hid hqr
    have HZX := Lib.hid hzr
    have HLX := Lib.hid hlr
    clear hqr hzr hlr HQ0 HZ0 HL0
    by_cases hlt : k < 3
    · have hd : decide ((k : Int) < 3) = true := decide_eq_true (by omega)
      have hd2 : decide (k < 3) = true := decide_eq_true (by omega)
      have hk1 : (k : Int) < 3 := by omega
      have hk0 : (0 : Int) ≤ (k : Int) := by omega
      have HKL : Hid (k < (crashM us d k).fs.length) := by show _ < _; rw [HQX.out.m3]; exact hlt
      have HFE : Hid ((crashM us d k).fs[k]'HKL.out = d.fs[k]'(by have := HM3.out; omega)) := crashM_get HM3.out k hlt HKL.out
      have HSP := Lib.hid (crashM_step (us := us) HM3.out k hlt)
      have hkt : k < tk.length := by rw [HQX.out.n3]; exact hlt
      have HT : Hid (tk[k]? = some (tk[k]'hkt)) := List.getElem?_eq_getElem hkt
      have HF : Hid ((crashM us d k).fs[k]? = some (d.fs[k]'(by have := HM3.out; omega))) := by show _ = _; rw [← HFE.out]; exact List.getElem?_eq_getElem HKL.out
      have HCU : Hid (crU us k (d.fs[k]'(by have := HM3.out; omega)) ≤ unitsAll (d.fs[k]'(by have := HM3.out; omega)).steps) := crU_le
      generalize hff : d.fs[k]'(by have := HM3.out; omega) = f at *
      generalize tk[k]'hkt = t at *
      clear hff hkt
      have HRT := Lib.hid (HQX.out.each k t f HT.out HF.out).1
      have HNB : Hid (f.need ≤ 1000000) := by
        have h1 := usedL_mem HKL.out
        have h2 := HQX.out.used
        rw [HFE.out] at h1
        show _ ≤ _
        omega
      have HUB : Hid (unitsAll f.steps ≤ 288230376151711744) := HRT.out.now.un
      by_cases hku : k < us.length
      · have e0 : decide ((k : Int) < (us.length : Int)) = true := decide_eq_true (by omega)
        have e1 : decide (k < us.length) = true := decide_eq_true hku
        obtain ⟨g, o, rfl⟩ := HN.out.sl.addr (by omega) (by omega)
        have hcx : wr.cell? ⟨g, o + k, none⟩ = some (.int .i64 (us[k]'hku)) := (HN.out.sl.below HLX.out).at (by simp [hku])
        have HXE : Hid (us[k]? = some (us[k]'hku)) := List.getElem?_eq_getElem hku
        have HXB := Lib.hid (HN.out.bd _ (List.getElem_mem hku))
        generalize us[k] = x at *
        have HCE : Hid (crU us k f = ((x.tmod ((unitsAll f.steps + 1 : Nat) : Int) + ((unitsAll f.steps + 1 : Nat) : Int)).tmod ((unitsAll f.steps + 1 : Nat) : Int)).toNat) := by show _ = _; unfold crU; rw [HXE.out]
        have HU := Lib.hid (runits_any t f wr HRT.out.now)
        have HRG := Lib.hid (rd_range HQX.out.n3 HQX.out.m3 HQX.out.row k HT.out HF.out)
        generalize hua : unitsAll f.steps = ua at *
        obtain ⟨A, hA⟩ : ∃ A, A = ua + 1 := ⟨_, rfl⟩
        have hA0 : 1 ≤ A := by omega
        have hAB : A ≤ 288230376151711745 := by have := HUB.out; omega
        rw [← hA] at HCE
        have hua1 : IntKind.i64.wrap ((ua : Int) + 1) = (A : Int) := by rw [show ((ua : Int) + 1) = (A : Int) by omega]; exact IntWalk.i64_in _ (by omega)
        have hua2 : (ua : Int) + 1 = (A : Int) := by omega
        obtain ⟨r, hr⟩ : ∃ r, x.tmod (A : Int) = r := ⟨_, rfl⟩
        have hr1 : -(A : Int) < r ∧ r < (A : Int) := by
          rw [← hr]
          exact ⟨Int.lt_tmod_of_pos x (by omega), Int.tmod_lt_of_pos x (by omega)⟩
        have hne0 : ((A : Int) == 0) = false := by rw [beq_eq_false_iff_ne]; omega
        have hne1 : ¬ (A : Int) = 0 := by omega
        have hne2 : ¬ A = 0 := by omega
        have hwr : IntKind.i64.wrap r = r := IntWalk.i64_in _ (by omega)
        have hcr : (if r < 0 then r + (A : Int) else r) = ((crU us k f : Nat) : Int) := by
          have h0 := HCE.out
          rw [hr] at h0
          have h1 : 0 ≤ (r + (A : Int)).tmod (A : Int) := Int.tmod_nonneg _ (by omega)
          split
          · rename_i hn; rw [rcr_neg hr1.1 hr1.2 hn] at h0 h1; omega
          · rename_i hn; rw [rcr_pos hr1.2 hn] at h0 h1; omega
        obtain ⟨mm, hmm⟩ : ∃ mm, mm = crU us k f := ⟨_, rfl⟩
        have HME := Lib.hid hmm
        rw [← hmm] at hcr
        have hmb : mm ≤ 1152921504606846976 := by have := HCU.out; have := HUB.out; omega
        clear hA hmm
        go_upto_region 6 with fail
        go_wp2_with ((with_reducible refine wpAt 19 ?_); refine wpList_load_mid rfl 34 _ rfl w.heap.size (k * 2) rfl (fA t f).toList _ HRG.out Try.underlying34 rfl (infoFi (fA t f) rfl) ?_)
        try rw [Array.toArray_toList]
        refine (HU.out).mono ?_
        rintro e w3 ⟨rfl, hb3⟩
        have hcx3 : w3.cell? ⟨g, o + k, none⟩ = some (.int .i64 x) := cell_below hcx hb3
        have hq3 := HQX.out.next hb3
        have hz3 := Below.keepOld hb3 HZX.out
        have hl3 := HLX.out.trans (hb3.mono HLX.out.size)
        clear HQX HZX HLX HRG HU hb3 hcx
        have HQX := Lib.hid hq3
        have HZX := Lib.hid hz3
        have HLX := Lib.hid hl3
        clear hq3 hz3 hl3
        by_cases hneg : r < 0
        · rw [if_pos hneg] at hcr
          have e2 : decide (r < 0) = true := decide_eq_true hneg
          have hws : IntKind.i64.wrap (r + (A : Int)) = (mm : Int) := by rw [IntWalk.i64_in _ (by omega)]; exact hcr
          go_upto_region 10 with fail
          skip
          -- the file k is what it keeps; world w3: HQX (RQ), HZX, HLX (Below w w3), HME : mm = crU us k f
          have hrb := (HQX.out.each k t f HT.out HF.out).1
          have HRG := Lib.hid (rd_range HQX.out.n3 HQX.out.m3 HQX.out.row k HT.out HF.out)
          have HDN := Lib.hid (rdone_any t f mm w3 hrb.now HNB.out (by omega))
          obtain ⟨L, hL⟩ : ∃ L, someU f.kept f.steps mm = L := ⟨_, rfl⟩
          rw [hL] at HDN
          obtain ⟨FN, hFN⟩ : ∃ FN, f.settle mm = FN := ⟨_, rfl⟩
          have hset : FN = ⟨L, L, [], L.length⟩ := by rw [← hFN]; exact settle_set f mm hL
          have HNS : Hid (Nd FN) := by have := nd_settle f mm; rw [hFN] at this; exact this
          have HST := Lib.hid hset
          have HUS : Hid (usedL (setF (crashM us d k) k FN).fs ≤ 1000000) := by
            have h1 := used_set (d := crashM us d k) HKL.out FN
            rw [HFE.out] at h1
            have h2 := HQX.out.used
            have h3 : FN.need = L.length := by rw [hset]
            have h4 := hrb.now.ok.all mm
            rw [hL] at h4
            show _ ≤ _
            omega
          have HSF : Hid (setF (crashM us d k) k FN = crashM us d (k + 1)) := by
            show _ = _
            rw [← HSP.out, ← hFN, HME.out]
          clear hrb hL hset hFN
          go_wp2_with ((with_reducible refine wpAt 37 ?_); refine wpList_load_mid rfl 34 _ rfl w.heap.size (k * 2) rfl (fA t f).toList _ HRG.out Try.underlying34 rfl (infoFi (fA t f) rfl) ?_)
          try rw [Array.toArray_toList]
          refine HDN.out.mono ?_
          rintro e w5 ⟨p5, c5, rfl, ho5, hb5⟩
          have hq5 := HQX.out.next hb5
          have hfr : Rb w.heap.size w5 ⟨p5, c5, none, 0⟩ FN := Rb.fresh (f := FN) ho5 HST.out
          obtain ⟨TN, hTN⟩ : ∃ TN : RF, (⟨p5, c5, none, 0⟩ : RF) = TN := ⟨_, rfl⟩
          have hfa : fA TN FN = #[.slice p5 L.length c5, .slice none 0 0] := by rw [← hTN, HST.out]; rfl
          rw [hTN] at hfr
          obtain ⟨hq6, hk6⟩ := hq5.file k hlt TN FN hfr HNS.out HUS.out
          rw [hfa] at hq6 hk6
          rw [HSF.out] at hq6
          have HTH := Lib.hid (hq5.there k hlt)
          have HQ6 := Lib.hid hq6
          have HL6 := Lib.hid (HLX.out.trans (hb5.mono HLX.out.size))
          have HL7 : Hid (Below w.heap.size w (w5.setCells w.heap.size (k * 2) #[.slice p5 L.length c5, .slice none 0 0].toList)) := Lib.hid (HL6.out.trans (Turns.below (turns_setCells (S := fun k => k = w.heap.size) rfl _ _ _ (Turns.refl _ w5)) HL6.out.size (fun _ e => by omega)))
          have hd6 : (w5.setCells w.heap.size (k * 2) #[.slice p5 L.length c5, .slice none 0 0].toList).heap[w.heap.size + 1]? = some (.cells zD 37 (0, 0)) := (turns_setCells (S := fun k => k = w.heap.size) rfl _ _ _ (Turns.refl _ w5)).keep (Below.keepOld hb5 HZX.out) (by omega)
          have HZ7 := Lib.hid hd6
          clear HQX HZX HLX HDN ho5 hb5 hq5 hfr hq6 hk6 hd6 HRG HUS HNS HST HL6 hTN hfa HSF
          go_wp2_with (refine wpList_store_mid rfl 34 _ _ rfl w.heap.size (k * 2) #[.slice p5 L.length c5, .slice none 0 0] rfl rfl HTH.out (infoFi _ rfl) (by simp [Value.oneCell']) ?_)
          go_roundw
          case rel => exact ⟨k + 1, by omega, by go_num, _, HQ6.out, HZ7.out, HL7.out⟩
          case measure => simp [intOf]; omega
        · rw [if_neg hneg] at hcr
          have e2 : decide (r < 0) = false := decide_eq_false hneg
          subst hcr
          go_upto_region 10 with fail
          skip
          -- the file k is what it keeps; world w3: HQX (RQ), HZX, HLX (Below w w3), HME : mm = crU us k f
          have hrb := (HQX.out.each k t f HT.out HF.out).1
          have HRG := Lib.hid (rd_range HQX.out.n3 HQX.out.m3 HQX.out.row k HT.out HF.out)
          have HDN := Lib.hid (rdone_any t f mm w3 hrb.now HNB.out (by omega))
          obtain ⟨L, hL⟩ : ∃ L, someU f.kept f.steps mm = L := ⟨_, rfl⟩
          rw [hL] at HDN
          obtain ⟨FN, hFN⟩ : ∃ FN, f.settle mm = FN := ⟨_, rfl⟩
          have hset : FN = ⟨L, L, [], L.length⟩ := by rw [← hFN]; exact settle_set f mm hL
          have HNS : Hid (Nd FN) := by have := nd_settle f mm; rw [hFN] at this; exact this
          have HST := Lib.hid hset
          have HUS : Hid (usedL (setF (crashM us d k) k FN).fs ≤ 1000000) := by
            have h1 := used_set (d := crashM us d k) HKL.out FN
            rw [HFE.out] at h1
            have h2 := HQX.out.used
            have h3 : FN.need = L.length := by rw [hset]
            have h4 := hrb.now.ok.all mm
            rw [hL] at h4
            show _ ≤ _
            omega
          have HSF : Hid (setF (crashM us d k) k FN = crashM us d (k + 1)) := by
            show _ = _
            rw [← HSP.out, ← hFN, HME.out]
          clear hrb hL hset hFN
          go_wp2_with ((with_reducible refine wpAt 37 ?_); refine wpList_load_mid rfl 34 _ rfl w.heap.size (k * 2) rfl (fA t f).toList _ HRG.out Try.underlying34 rfl (infoFi (fA t f) rfl) ?_)
          try rw [Array.toArray_toList]
          refine HDN.out.mono ?_
          rintro e w5 ⟨p5, c5, rfl, ho5, hb5⟩
          have hq5 := HQX.out.next hb5
          have hfr : Rb w.heap.size w5 ⟨p5, c5, none, 0⟩ FN := Rb.fresh (f := FN) ho5 HST.out
          obtain ⟨TN, hTN⟩ : ∃ TN : RF, (⟨p5, c5, none, 0⟩ : RF) = TN := ⟨_, rfl⟩
          have hfa : fA TN FN = #[.slice p5 L.length c5, .slice none 0 0] := by rw [← hTN, HST.out]; rfl
          rw [hTN] at hfr
          obtain ⟨hq6, hk6⟩ := hq5.file k hlt TN FN hfr HNS.out HUS.out
          rw [hfa] at hq6 hk6
          rw [HSF.out] at hq6
          have HTH := Lib.hid (hq5.there k hlt)
          have HQ6 := Lib.hid hq6
          have HL6 := Lib.hid (HLX.out.trans (hb5.mono HLX.out.size))
          have HL7 : Hid (Below w.heap.size w (w5.setCells w.heap.size (k * 2) #[.slice p5 L.length c5, .slice none 0 0].toList)) := Lib.hid (HL6.out.trans (Turns.below (turns_setCells (S := fun k => k = w.heap.size) rfl _ _ _ (Turns.refl _ w5)) HL6.out.size (fun _ e => by omega)))
          have hd6 : (w5.setCells w.heap.size (k * 2) #[.slice p5 L.length c5, .slice none 0 0].toList).heap[w.heap.size + 1]? = some (.cells zD 37 (0, 0)) := (turns_setCells (S := fun k => k = w.heap.size) rfl _ _ _ (Turns.refl _ w5)).keep (Below.keepOld hb5 HZX.out) (by omega)
          have HZ7 := Lib.hid hd6
          clear HQX HZX HLX HDN ho5 hb5 hq5 hfr hq6 hk6 hd6 HRG HUS HNS HST HL6 hTN hfa HSF
          go_wp2_with (refine wpList_store_mid rfl 34 _ _ rfl w.heap.size (k * 2) #[.slice p5 L.length c5, .slice none 0 0] rfl rfl HTH.out (infoFi _ rfl) (by simp [Value.oneCell']) ?_)
          go_roundw
          case rel => exact ⟨k + 1, by omega, by go_num, _, HQ6.out, HZ7.out, HL7.out⟩
          case measure => simp [intOf]; omega
      · have e0 : decide ((k : Int) < (us.length : Int)) = false := decide_eq_false (by omega)
        have e1 : decide (k < us.length) = false := decide_eq_false hku
        have HME : Hid (0 = crU us k f) := by show _ = _; unfold crU; rw [List.getElem?_eq_none (by omega)]
        go_upto_region 10 with fail
        skip
        -- the file k is what it keeps; world wr: HQX (RQ), HZX, HLX (Below w wr), HME : mm = crU us k f
        have hrb := (HQX.out.each k t f HT.out HF.out).1
        have HRG := Lib.hid (rd_range HQX.out.n3 HQX.out.m3 HQX.out.row k HT.out HF.out)
        have HDN := Lib.hid (rdone_any t f 0 wr hrb.now HNB.out (by omega))
        obtain ⟨L, hL⟩ : ∃ L, someU f.kept f.steps 0 = L := ⟨_, rfl⟩
        rw [hL] at HDN
        obtain ⟨FN, hFN⟩ : ∃ FN, f.settle 0 = FN := ⟨_, rfl⟩
        have hset : FN = ⟨L, L, [], L.length⟩ := by rw [← hFN]; exact settle_set f 0 hL
        have HNS : Hid (Nd FN) := by have := nd_settle f 0; rw [hFN] at this; exact this
        have HST := Lib.hid hset
        have HUS : Hid (usedL (setF (crashM us d k) k FN).fs ≤ 1000000) := by
          have h1 := used_set (d := crashM us d k) HKL.out FN
          rw [HFE.out] at h1
          have h2 := HQX.out.used
          have h3 : FN.need = L.length := by rw [hset]
          have h4 := hrb.now.ok.all 0
          rw [hL] at h4
          show _ ≤ _
          omega
        have HSF : Hid (setF (crashM us d k) k FN = crashM us d (k + 1)) := by
          show _ = _
          rw [← HSP.out, ← hFN, HME.out]
        clear hrb hL hset hFN
        go_wp2_with ((with_reducible refine wpAt 37 ?_); refine wpList_load_mid rfl 34 _ rfl w.heap.size (k * 2) rfl (fA t f).toList _ HRG.out Try.underlying34 rfl (infoFi (fA t f) rfl) ?_)
        try rw [Array.toArray_toList]
        refine HDN.out.mono ?_
        rintro e w5 ⟨p5, c5, rfl, ho5, hb5⟩
        have hq5 := HQX.out.next hb5
        have hfr : Rb w.heap.size w5 ⟨p5, c5, none, 0⟩ FN := Rb.fresh (f := FN) ho5 HST.out
        obtain ⟨TN, hTN⟩ : ∃ TN : RF, (⟨p5, c5, none, 0⟩ : RF) = TN := ⟨_, rfl⟩
        have hfa : fA TN FN = #[.slice p5 L.length c5, .slice none 0 0] := by rw [← hTN, HST.out]; rfl
        rw [hTN] at hfr
        obtain ⟨hq6, hk6⟩ := hq5.file k hlt TN FN hfr HNS.out HUS.out
        rw [hfa] at hq6 hk6
        rw [HSF.out] at hq6
        have HTH := Lib.hid (hq5.there k hlt)
        have HQ6 := Lib.hid hq6
        have HL6 := Lib.hid (HLX.out.trans (hb5.mono HLX.out.size))
        have HL7 : Hid (Below w.heap.size w (w5.setCells w.heap.size (k * 2) #[.slice p5 L.length c5, .slice none 0 0].toList)) := Lib.hid (HL6.out.trans (Turns.below (turns_setCells (S := fun k => k = w.heap.size) rfl _ _ _ (Turns.refl _ w5)) HL6.out.size (fun _ e => by omega)))
        have hd6 : (w5.setCells w.heap.size (k * 2) #[.slice p5 L.length c5, .slice none 0 0].toList).heap[w.heap.size + 1]? = some (.cells zD 37 (0, 0)) := (turns_setCells (S := fun k => k = w.heap.size) rfl _ _ _ (Turns.refl _ w5)).keep (Below.keepOld hb5 HZX.out) (by omega)
        have HZ7 := Lib.hid hd6
        clear HQX HZX HLX HDN ho5 hb5 hq5 hfr hq6 hk6 hd6 HRG HUS HNS HST HL6 hTN hfa HSF
        go_wp2_with (refine wpList_store_mid rfl 34 _ _ rfl w.heap.size (k * 2) #[.slice p5 L.length c5, .slice none 0 0] rfl rfl HTH.out (infoFi _ rfl) (by simp [Value.oneCell']) ?_)
        go_roundw
        case rel => exact ⟨k + 1, by omega, by go_num, _, HQ6.out, HZ7.out, HL7.out⟩
        case measure => simp [intOf]; omega
    · obtain rfl : k = 3 := by omega
      have hd : decide ((3 : Int) < (3 : Int)) = false := by decide
      obtain ⟨_, hc7, hc8, hfz⟩ := HQX.out.cells
      go_upto_region 11 with fail
      have hq4 : RQ w.heap.size w.heap.size tk ⟨(crashM us d 3).fs, d.room, 0, (crashM us d 3).down⟩ (wr.setCell ⟨w.heap.size, 7, none⟩ (.int .i64 0)) := (HQX.out.fuse 0 (by omega)).1
      have hl4 : Below w.heap.size w (wr.setCell ⟨w.heap.size, 7, none⟩ (.int .i64 0)) := HLX.out.trans (Turns.below ((Turns.refl (fun k => k = w.heap.size) wr).setCell (p := ⟨w.heap.size, 7, none⟩) (fun _ => rfl) _) HLX.out.size (fun _ e => by omega))
      have hz4 : (wr.setCell ⟨w.heap.size, 7, none⟩ (.int .i64 0)).heap[w.heap.size + 1]? = some (.cells zD 37 (0, 0)) := ((Turns.refl (fun k => k = w.heap.size) wr).setCell (p := ⟨w.heap.size, 7, none⟩) (fun _ => rfl) _).keep HZX.out (by omega)
      go_upto_region 12 with fail
      clear hc7 hc8 hfz HQX HZX HLX
      generalize wr.setCell ⟨w.heap.size, 7, none⟩ (.int .i64 0) = w4 at *
      obtain ⟨_, _, hc8, hfz⟩ := hq4.cells
      have hq5 := (hq4.down false).1
      have hl5 : Below w.heap.size w (w4.setCell ⟨w.heap.size, 8, none⟩ (.bool false)) := hl4.trans (Turns.below ((Turns.refl (fun k => k = w.heap.size) w4).setCell (p := ⟨w.heap.size, 8, none⟩) (fun _ => rfl) _) hl4.size (fun _ e => by omega))
      have hz5 : (w4.setCell ⟨w.heap.size, 8, none⟩ (.bool false)).heap[w.heap.size + 1]? = some (.cells zD 37 (0, 0)) := ((Turns.refl (fun k => k = w.heap.size) w4).setCell (p := ⟨w.heap.size, 8, none⟩) (fun _ => rfl) _).keep hz4 (by omega)
      have HQ5 := Lib.hid hq5
      have HL5 := Lib.hid hl5
      have HZ5 := Lib.hid hz5
      clear hq4 hl4 hz4 hq5 hl5 hz5
      go_upto_region 13 with fail
      clear hc8 hfz
      generalize w4.setCell ⟨w.heap.size, 8, none⟩ (.bool false) = w5 at *
      have hq : RQ w.heap.size w.heap.size tk (crashD us d) w5 := by rw [← crashM_end HM3.out]; exact HQ5.out
      have HQ := Lib.hid hq
      clear hq HQ5
      generalize crashD us d = DC at *
      have HCO : Hid (∀ w', RDB w' tk DC → Below w.heap.size w w' → CrOx DC w (.returned (.agg (rdA tk DC))) w') := fun w' a b => ⟨tk, rfl, a, b⟩
      go_wp2_with (first
        | refine wpList_load_row rfl 37 _ rfl w.heap.size rfl 37 (rdA tk DC) (0, 0) _ HQ.out.row Try.underlying37 rfl (infoRD _ (rdA_size HQ.out.n3 HQ.out.m3)) ?_
        | refine wpList_store_row rfl 37 _ _ rfl (w.heap.size + 1) (rdA tk DC) rfl rfl 37 zD HZ5.out (infoRD _ (rdA_size HQ.out.n3 HQ.out.m3)) (by rw [rdA_size HQ.out.n3 HQ.out.m3]; rfl) (rdA_one HQ.out.n3 HQ.out.m3) ?_)
      have HS := Lib.hid (setRow_heap _ _ _ (rdA tk DC) _ _ HZ5.out)
      refine bodyPost_ret (results_cell_row rfl _ _ _ _ _ _ _ rfl HS.out Try.underlying37 rfl (infoRD _ (rdA_size HQ.out.n3 HQ.out.m3))) rfl ?_
      exact HCO.out _ (HQ.out.done HZ5.out (by omega)) (below_setRow HL5.out (by omega) _)
end Go.Proofs.Ytbkkcejpkfbcjaa.Rk

namespace Go.Proofs.Ytbkkcejpkfbcjaa.Dk
open Go.RowKit Go.Mir Go.Mir.Parts

/-- what a call of the statement is -/
structure DOp where
  kind : Int
  file : Int
  n : Int
  b : List UInt8
  us : List Int
def dopA (o : DOp) (pb : Option Addr) (cb : Nat) (pu : Option Addr) (cu : Nat) : Array Value := #[.int .i64 o.kind, .int .i64 o.file, .int .i64 o.n, .slice pb o.b.length cb, .slice pu o.us.length cu]
structure DOpAt (w : World) (cs : List Value) (o : DOp) : Prop where
  form : ∃ pb cb pu cu, cs = (dopA o pb cb pu cu).toList ∧ Bs w pb o.b.length cb o.b ∧ Ns w pu o.us.length cu o.us
  kindB : -9223372036854775808 ≤ o.kind ∧ o.kind ≤ 9223372036854775807
  fileB : -9223372036854775808 ≤ o.file ∧ o.file ≤ 9223372036854775807
  nB : -9223372036854775808 ≤ o.n ∧ o.n ≤ 9223372036854775807
theorem Ns.below {w w' : World} {p : Option Addr} {n c : Nat} {us : List Int} (h : Ns w p n c us) (hb : Below w.heap.size w w') : Ns w' p n c us := ⟨h.sl.below hb, h.count, h.bd⟩
theorem DOpAt.below {w w' : World} {cs : List Value} {o : DOp} (h : DOpAt w cs o) (hb : Below w.heap.size w w') : DOpAt w' cs o := by
  obtain ⟨pb, cb, pu, cu, h1, h2, h3⟩ := h.form
  exact ⟨⟨pb, cb, pu, cu, h1, h2.below hb, h3.below hb⟩, h.kindB, h.fileB, h.nB⟩
structure DOps (w : World) (p : Option Addr) (n c : Nat) (os : List DOp) (rows : List (List Value)) : Prop where
  rs : Rs w p n c 5 rows
  count : os.length = n
  each : ∀ (i : Nat) r o, rows[i]? = some r → os[i]? = some o → DOpAt w r o
theorem DOps.below {w w' : World} {p : Option Addr} {n c : Nat} {os : List DOp} {rows : List (List Value)} (h : DOps w p n c os rows) (hb : Below w.heap.size w w') : DOps w' p n c os rows :=
  ⟨h.rs.below hb, h.count, fun i r o h1 h2 => (h.each i r o h1 h2).below hb⟩
theorem DOps.at {w : World} {b o n c : Nat} {os : List DOp} {rows : List (List Value)} (h : DOps w (some ⟨b, o, none⟩) n c os rows) (k : Nat) (hk : k < os.length) : ∃ pb cb pu cu, Bs w pb os[k].b.length cb os[k].b ∧ Ns w pu os[k].us.length cu os[k].us ∧ w.rangeAt b (o + k * 5) (dopA os[k] pb cb pu cu).toList := by
  have hkr : k < rows.length := by rw [h.rs.count, ← h.count]; exact hk
  obtain ⟨pb, cb, pu, cu, e, h1, h2⟩ := (h.each k _ os[k] (List.getElem?_eq_getElem hkr) (List.getElem?_eq_getElem hk)).form
  refine ⟨pb, cb, pu, cu, h1, h2, ?_⟩
  rw [← e]
  exact h.rs.row k hkr
theorem dopA_cell {w : World} {b : Nat} {o : DOp} {pb : Option Addr} {cb : Nat} {pu : Option Addr} {cu : Nat} {t : TypeId} {fr : Nat × Nat} (h : w.heap[b]? = some (.cells (dopA o pb cb pu cu) t fr)) :
    w.cell? ⟨b, 0, none⟩ = some (.int .i64 o.kind) ∧ w.cell? ⟨b, 1, none⟩ = some (.int .i64 o.file) ∧ w.cell? ⟨b, 2, none⟩ = some (.int .i64 o.n) ∧ w.cell? ⟨b, 3, none⟩ = some (.slice pb o.b.length cb) ∧ w.cell? ⟨b, 4, none⟩ = some (.slice pu o.us.length cu) := by
  refine ⟨?_, ?_, ?_, ?_, ?_⟩ <;> (rw [cell_of_row _ _ _ _ _ _ h]; rfl)
theorem dopA_one (o : DOp) (pb : Option Addr) (cb : Nat) (pu : Option Addr) (cu : Nat) : (dopA o pb cb pu cu).all (·.oneCell') = true := by
  unfold dopA
  simp [Value.oneCell']
theorem infoDOp (n : Nat) (h : n = 5) : (Try.prog.info? 40).map (·.size) = some n := by subst h; kernel_rfl
theorem zDOp : ∃ Z : Array Value, (∀ w0, (zeroValue 40).run Try.prog w0 = .ok (.agg Z) w0) ∧ Z.size = 5 := ⟨#[.int .i64 0, .int .i64 0, .int .i64 0, .slice none 0 0, .slice none 0 0], fun w0 => by kernel_rfl, by kernel_rfl⟩
def SmallP (w : World) (e : Ending) (w' : World) : Prop := ∃ sb : Bool, e = .returned (.bool sb) ∧ Below w.heap.size w w'
set_option maxRecDepth 100000 in
set_option maxHeartbeats 800000 in
theorem small_any (os : List DOp) (p : Option Addr) (c : Nat) (rows : List (List Value)) (w : World) (h : DOps w p os.length c os rows) (hbl : ∀ o ∈ os, o.b.length ≤ 140737488355328 ∧ o.us.length ≤ 140737488355328) :
    Calls Try.prog 4 #[.slice p os.length c] w (SmallP w) := by
  obtain ⟨Z, hz, hZ⟩ := zDOp
  have HZZ := Lib.hid hZ
  have H := Lib.hid h
  have HBL := Lib.hid hbl
  have hle := h.rs.sl.le
  have hmax := h.rs.sl.max
  clear h hZ hbl
  go_enter Try.func4, Try.ntmps4
  go_wp2_with fail
  go_loopw [3, 10] (fun a j wr => ∃ k : Nat, k ≤ os.length ∧ j = .int .i64 k ∧ (∃ z : Int, a = .int .i64 z) ∧ Below w.heap.size w wr) (fun _ j _ => os.length - (intOf j).toNat)
  case atStart => exact ⟨0, by omega, rfl, ⟨_, rfl⟩, Below.refl _ _⟩
  case round =>
    obtain ⟨k, hk, rfl, ⟨z, rfl⟩, hb0⟩ := hrel
    have HB0 := Lib.hid hb0
    clear hb0
    by_cases hlt : k < os.length
    · have hd : decide ((k : Int) < (os.length : Int)) = true := decide_eq_true (by omega)
      have hd2 : decide (k < os.length) = true := decide_eq_true hlt
      obtain ⟨b, o, rfl⟩ := H.out.rs.sl.addr (by omega) (by omega)
      obtain ⟨pb, cb, pu, cu, hbs, hns, hrg⟩ := H.out.at k hlt
      have HRG := Lib.hid (range_below hrg HB0.out)
      have hx1 : (os[k]).b.length ≤ 140737488355328 := (HBL.out _ (List.getElem_mem hlt)).1
      have hx2 : (os[k]).us.length ≤ 140737488355328 := (HBL.out _ (List.getElem_mem hlt)).2
      clear hbs hns hrg
      generalize os[k] = oo at *
      obtain ⟨A, hA⟩ : ∃ A, A = dopA oo pb cb pu cu := ⟨_, rfl⟩
      have HOS : Hid (A.size = 5) := by show _ = _; rw [hA]; rfl
      have HOO : Hid (A.all (·.oneCell') = true) := by show _ = _; rw [hA]; exact dopA_one _ _ _ _ _
      have HOL : Hid (A.toList.length = 5) := by show _ = _; rw [Array.length_toList]; exact HOS.out
      have HNW := Lib.hid (box_new wr Z 40)
      have hbr := box_row wr Z A 40
      have HBB := Lib.hid (box_below wr Z A 40)
      have HB3 := Lib.hid (HB0.out.trans (HBB.out.mono HB0.out.size))
      rw [hA] at hbr
      obtain ⟨_, _, _, hc3, hc4⟩ := dopA_cell hbr
      rw [← hA] at hc3 hc4 HRG
      clear hbr hA
      have hw1 : IntKind.i64.wrap ((oo.b.length : Int) + (oo.us.length : Int)) = (oo.b.length : Int) + (oo.us.length : Int) := IntWalk.i64_in _ (by omega)
      obtain ⟨z2, hw2⟩ : ∃ z2, IntKind.i64.wrap (z + ((oo.b.length : Int) + (oo.us.length : Int))) = z2 := ⟨_, rfl⟩
      go_wp2_with (first
        | ((with_reducible refine wpAt 13 ?_); refine wpList_load_mid rfl 40 _ rfl b (o + k * 5) rfl A.toList _ HRG.out Try.underlying40 rfl (infoDOp _ HOL.out) ?_)
        | ((with_reducible refine wpStoreAt 5 ?_); refine wpList_store_row rfl 40 _ _ rfl wr.heap.size A rfl rfl 40 Z HNW.out (infoDOp _ HOS.out) (HZZ.out.trans HOS.out.symm) HOO.out ?_))
      go_roundw
      case rel => exact ⟨k + 1, by omega, by go_num, ⟨_, rfl⟩, HB3.out⟩
      case measure => simp [intOf]; omega
    · have hd : decide ((k : Int) < (os.length : Int)) = false := decide_eq_false (by omega)
      have hd2 : decide (k < os.length) = false := decide_eq_false hlt
      obtain rfl : k = os.length := by omega
      go_wp2_with fail
      go_ret
      exact ⟨_, rfl, HB0.out⟩
end Go.Proofs.Ytbkkcejpkfbcjaa.Dk

namespace Go.Proofs.Ytbkkcejpkfbcjaa.Dk
open Go.RowKit Go.Mir Go.Mir.Parts

/-- what a call does of a disk -/
def opD (d : DD) (o : DOp) : DD := if o.kind = 0 then putD d o.file o.b else if o.kind = 1 then cutD d o.file o.n else if o.kind = 2 then synD d o.file else if o.kind = 3 then ⟨d.fs, d.room, o.n.toNat, d.down⟩ else if o.kind = 4 then crashD o.us d else d
def playD : DD → List DOp → DD
  | d, [] => d
  | d, o :: r => playD (opD d o) r
theorem playD_take : ∀ (l : List DOp) (d : DD) (k : Nat) (h : k < l.length), playD d (l.take (k + 1)) = opD (playD d (l.take k)) l[k]
  | [], d, k, h => by simp at h
  | o :: r, d, 0, _ => by simp [playD]
  | o :: r, d, k + 1, h => by
    simp only [List.take_succ_cons, playD, List.getElem_cons_succ]
    exact playD_take r (opD d o) k (by simpa using h)
def FewD (d : DD) (N : Nat) : Prop := ∀ f ∈ d.fs, f.steps.length ≤ N
theorem FewD.mono {d : DD} {N M : Nat} (h : FewD d N) (hm : N ≤ M) : FewD d M := fun f hf => Nat.le_trans (h f hf) hm
theorem FewD.set {d : DD} {N i : Nat} {f : FD} (h : FewD d N) (hf : f.steps.length ≤ N) : FewD (setF d i f) N := fun g hg => by
  rcases List.mem_or_eq_of_mem_set hg with hg | hg
  · exact h g hg
  · rw [hg]; exact hf
theorem FewD.burn {d : DD} {N : Nat} (h : FewD d N) : FewD d.burn N := fun g hg => h g (by rw [burn_fs] at hg; exact hg)
theorem FewD.doD {d : DD} {N i : Nat} {f : FD} {s : St} (h : FewD d N) (hf : f.steps.length ≤ N) : FewD (doD d i f s) (N + 1) := by
  unfold Dk.doD
  split
  · exact h.mono (by omega)
  · split
    · exact h.mono (by omega)
    · refine FewD.burn (FewD.set (h.mono (by omega)) ?_)
      show (f.steps ++ [s]).length ≤ _
      rw [List.length_append]
      simp; omega
theorem FewD.syncD {d : DD} {N i : Nat} {f : FD} (h : FewD d N) : FewD (syncD d i f) N := by
  unfold Dk.syncD
  split
  · exact h
  · split
    · exact h.burn
    · exact FewD.set h.burn (Nat.zero_le _)
theorem crF_few (us : List Int) : ∀ (l : List FD) (k : Nat), ∀ f ∈ crF us k l, f.steps.length = 0
  | [], k, f, hf => by simp [crF] at hf
  | g :: r, k, f, hf => by
    rw [crF, List.mem_cons] at hf
    rcases hf with rfl | hf
    · rfl
    · exact crF_few us r (k + 1) f hf
theorem FewD.opD {d : DD} {N : Nat} (h : FewD d N) (o : DOp) : FewD (opD d o) (N + 1) := by
  have hs : FewD d (N + 1) := h.mono (by omega)
  unfold Dk.opD
  split
  · unfold putD
    split
    · split
      · rename_i f hf
        exact h.doD (h f (List.mem_of_getElem? hf))
      · exact hs
    · exact hs
  · split
    · unfold cutD
      split
      · split
        · rename_i f hf
          split
          · exact h.doD (h f (List.mem_of_getElem? hf))
          · exact hs
        · exact hs
      · exact hs
    · split
      · unfold synD
        split
        · split
          · exact hs.syncD
          · exact hs
        · exact hs
      · split
        · exact hs
        · split
          · intro f hf
            have := crF_few o.us d.fs 0 f hf
            omega
          · exact hs
theorem FewD.playD : ∀ (l : List DOp) {d : DD} {N : Nat}, FewD d N → FewD (playD d l) (N + l.length)
  | [], _, _, h => h
  | o :: r, _, N, h => by
    have := FewD.playD r (h.opD o)
    simp only [Dk.playD, List.length_cons]
    rw [show N + (r.length + 1) = N + 1 + r.length by omega]
    exact this
/-- a crash, whatever units are told -/
theorem crF_nil : ∀ (l : List FD) (k : Nat), crF [] k l = l.map (fun f => f.settle 0)
  | [], k => rfl
  | f :: r, k => by rw [crF, crF_nil r (k + 1)]; rfl
theorem crash_all {base db : Nat} {vs : List FV} {d : DD} (w : World) (h : DAt w base db vs d) (hbase : base ≤ w.heap.size) (us : List Int) (p : Option Addr) (c : Nat) (hN : Ns w p us.length c us) (B : Nat) (hB : B ≤ base) (hap : ∀ a, p = some a → 0 < us.length → a.block < B) :
    Calls Try.prog 11 #[.pointer (some ⟨db, 0, none⟩), .slice p us.length c] w fun e w' => e = .returned (.tuple #[]) ∧ LeftD base db vs (crashD us d) w w' := by
  cases us with
  | nil =>
    have e1 : crashD [] d = crash0 d := by unfold crashD crash0; rw [crF_nil]
    rw [e1]
    exact crash_none w h hbase c p
  | cons x r =>
    refine crash_any w h hbase (x :: r) p c hN (fun a ha => ?_)
    have h1 := hap a ha (by simp)
    exact ⟨fun ho => by have := (h.ownLt _ ho).1; omega, by omega⟩
theorem Ns.lt {w : World} {p : Option Addr} {n c : Nat} {us : List Int} (h : Ns w p n c us) : ∀ a, p = some a → 0 < us.length → a.block < w.heap.size := fun a ha h0 => by
  subst ha
  have := h.sl.cell a rfl 0 (.int .i64 us[0]) (by simp [h0])
  exact block_lt_of_cell this
end Go.Proofs.Ytbkkcejpkfbcjaa.Dk

namespace Go.Proofs.Ytbkkcejpkfbcjaa.Dk
open Go.RowKit Go.Mir Go.Mir.Parts

def aD0 : DD := DD.new 10
def aF0 : FD := FD.none
def aS1 : St := .put [1, 2, 3]
def aD1 : DD := doD aD0 0 aF0 aS1
def aF1 : FD := FD.none.take aS1
def aD2 : DD := syncD aD1 0 aF1
def aF2 : FD := aF1.settle (unitsAll aF1.steps)
def aS3 : St := .put [4, 5]
def aD3 : DD := doD aD2 0 aF2 aS3
def aD4 : DD := crashD [1] aD3
theorem aE1 : doE aD0 0 aF0 aS1 = 0 := by decide
theorem aE2 : syncE aD1 = 0 := by decide
theorem aE3 : doE aD2 0 aF2 aS3 = 0 := by decide
theorem aL0 : ∃ h : 0 < aD0.fs.length, aD0.fs[0] = aF0 := ⟨by decide, rfl⟩
theorem aL1 : ∃ h : 0 < aD1.fs.length, aD1.fs[0] = aF1 := ⟨by decide, rfl⟩
theorem aL2 : ∃ h : 0 < aD2.fs.length, aD2.fs[0] = aF2 := ⟨by decide, rfl⟩
theorem aL4 : ∃ h : 0 < aD4.fs.length, aD4.fs[0].now = [1, 2, 3, 4] := ⟨by decide, by decide⟩
theorem bs_lit (w : World) (l : List UInt8) (hl : l.length ≤ 65536) : Bs (w.alloc (.cells (bytesV l).toArray 5)) (some ⟨w.heap.size, 0, none⟩) l.length l.length l :=
  ⟨by rw [bytesV_length, Nat.mul_one], Nat.le_refl _, by omega, fun h => (by cases h), fun a ha j u hu => by
    obtain rfl := Option.some.inj ha
    rw [add_none, Nat.zero_add, cell_of_row _ _ _ _ _ _ (heap_alloc_last _ _), ← Array.getElem?_toList]
    exact hu⟩
theorem lit123 : (bytesV [1, 2, 3]).toArray = #[.int .u8 1, .int .u8 2, .int .u8 3] := rfl
theorem lit45 : (bytesV [4, 5]).toArray = #[.int .u8 4, .int .u8 5] := rfl
theorem Turns.belowW {W w w' : World} {base db : Nat} {vs : List FV} {d : DD} (hW : Below W.heap.size W w) (h : DAt w base db vs d) (hb : W.heap.size ≤ base) (ht : Turns (DOwn db vs) w w') : Below W.heap.size W w' :=
  hW.trans (ht.below hW.size (fun i hi => Nat.le_trans hb (h.ownLt i hi).1))
theorem ns_one (w : World) (x : Int) (hx : -9223372036854775808 ≤ x ∧ x ≤ 9223372036854775807) : Ns (w.alloc (.cells #[.int .i64 x] 3)) (some ⟨w.heap.size, 0, none⟩) [x].length 1 [x] :=
  ⟨row_sl1 (heap_alloc_last _ _), rfl, fun y hy => by rw [List.mem_singleton] at hy; rw [hy]; exact hx⟩
set_option maxRecDepth 100000 in
set_option maxHeartbeats 800000 in
theorem alive_any (w : World) : Calls Try.prog 5 #[] w fun e w' => e = .returned (.bool true) ∧ Below w.heap.size w w' := by
  go_enter Try.func5, Try.ntmps5
  go_wp2_with fail
  refine (new_any 10 w ⟨by omega, by omega⟩).mono ?_
  rintro e w1 ⟨db, vs, rfl, hd1, hb1⟩
  have HD1 : Hid (DAt w1 w.heap.size db vs aD0) := hd1
  have HB1 := Lib.hid hb1
  clear hd1 hb1
  obtain ⟨hi0, hf0⟩ := aL0
  have hba := Below.allocs w1 (.cells (bytesV [1, 2, 3]).toArray 5)
  have HA1 := Lib.hid (append_in _ (HD1.out.below hba) (Nat.le_trans HB1.out.size hba.size) 0 hi0 aF0 hf0 _ _ _ [1, 2, 3] (bs_lit w1 [1, 2, 3] (by decide)) (by decide) (by decide))
  have HBA1 := Lib.hid (HB1.out.trans (hba.mono HB1.out.size))
  have hlit := lit123
  rw [hlit] at HA1 HBA1
  clear hba hi0 hf0 hlit
  go_wp2_with fail
  refine (HA1.out).mono ?_
  rintro e w2 ⟨he, vs2, hd2, ht2, hn2⟩
  have he1 : e = .returned (.int .i64 0) := by rw [he]; exact congrArg (fun z => Ending.returned (.int .i64 z)) aE1
  subst he1
  have HD2 : Hid (DAt w2 w.heap.size db vs2 aD1) := hd2
  have HB2 := Lib.hid (Turns.belowW HBA1.out (HD1.out.below (Below.allocs _ _)) (Nat.le_refl _) ht2)
  obtain ⟨hi1, hf1⟩ := aL1
  have HSY := Lib.hid (sync_in w2 hd2 HB2.out.size 0 hi1 aF1 hf1)
  clear hd2 ht2 hn2 he hi1 hf1
  go_wp2_with fail
  refine (HSY.out).mono ?_
  rintro e w3 ⟨he, vs3, hd3, ht3, hn3⟩
  have he1 : e = .returned (.int .i64 0) := by rw [he]; exact congrArg (fun z => Ending.returned (.int .i64 z)) aE2
  subst he1
  have HD3 : Hid (DAt w3 w.heap.size db vs3 aD2) := hd3
  have HB3 := Lib.hid (Turns.belowW HB2.out HD2.out (Nat.le_refl _) ht3)
  obtain ⟨hi2, hf2⟩ := aL2
  have hba := Below.allocs w3 (.cells (bytesV [4, 5]).toArray 5)
  have HA3 := Lib.hid (append_in _ (HD3.out.below hba) (Nat.le_trans HB3.out.size hba.size) 0 hi2 aF2 hf2 _ _ _ [4, 5] (bs_lit w3 [4, 5] (by decide)) (by decide) (by decide))
  have HBA3 := Lib.hid (HB3.out.trans (hba.mono HB3.out.size))
  have HDA3 := Lib.hid (HD3.out.below hba)
  rw [lit45] at HA3 HBA3 HDA3
  clear hba hi2 hf2 hd3 ht3 hn3 he
  go_wp2_with fail
  refine (HA3.out).mono ?_
  rintro e w4 ⟨he, vs4, hd4, ht4, hn4⟩
  have he1 : e = .returned (.int .i64 0) := by rw [he]; exact congrArg (fun z => Ending.returned (.int .i64 z)) aE3
  subst he1
  have HD4 : Hid (DAt w4 w.heap.size db vs4 aD3) := hd4
  have HB4 := Lib.hid (Turns.belowW HBA3.out HDA3.out (Nat.le_refl _) ht4)
  have hba := Below.allocs w4 (.cells #[.int .i64 1] 3)
  have HDA4 := Lib.hid (HD4.out.below hba)
  have HC4 := Lib.hid (crash_any _ (HD4.out.below hba) (Nat.le_trans HB4.out.size hba.size) [1] _ _ (ns_one w4 1 ⟨by omega, by omega⟩) (fun a ha => by
    obtain rfl := Option.some.inj ha
    exact ⟨fun hk => by have := (HD4.out.ownLt _ hk).2; exact absurd this (Nat.lt_irrefl _), by simp⟩))
  have HBA4 := Lib.hid (HB4.out.trans (hba.mono HB4.out.size))
  clear hba hd4 ht4 hn4 he
  go_wp2_with fail
  refine (HC4.out).mono ?_
  rintro e w5 ⟨rfl, vs5, hd5, ht5, hn5⟩
  have HD5 : Hid (DAt w5 w.heap.size db vs5 aD4) := hd5
  have HB5 := Lib.hid (Turns.belowW HBA4.out HDA4.out (Nat.le_refl _) ht5)
  obtain ⟨hi4, hf4⟩ := aL4
  have HRD := Lib.hid (read_in w5 HD5.out 0 hi4)
  rw [hf4] at HRD
  clear hd5 ht5 hn5 hi4 hf4
  go_wp2_with fail
  refine (HRD.out).mono ?_
  rintro e w6 ⟨p6, c6, rfl, hr6, hb6⟩
  have HB6 := Lib.hid (HB5.out.trans (hb6.mono HB5.out.size))
  obtain ⟨p', c', hv, hbs⟩ := hr6.bs
  obtain ⟨rfl, -, rfl⟩ := Value.slice.inj hv
  have hcv := run_conv (P := Try.prog) (w := w6) 31 9 5 Try.underlying31 Try.underlying5 Try.underlying9 hbs
  have hS : S [1, 2, 3, 4] = ByteArray.mk #[1, 2, 3, 4] := rfl
  rw [hS] at hcv
  have hcv2 := hcv
  rw [show ([1, 2, 3, 4] : List UInt8).length = 4 from rfl] at hcv2
  clear hb6 hr6 hbs hv
  go_wp2_with fail
  go_ret
  exact ⟨rfl, HB6.out⟩
end Go.Proofs.Ytbkkcejpkfbcjaa.Dk

namespace Go.Proofs.Ytbkkcejpkfbcjaa.Dk
open Go.RowKit Go.Mir Go.Mir.Parts

end Go.Proofs.Ytbkkcejpkfbcjaa.Dk

namespace Go.Proofs.Ytbkkcejpkfbcjaa.Rol
open Go.RowKit Go.Mir Go.Mir.Parts Dk

def fD (d : DD) (i : Nat) : FD := (d.fs[i]?).getD FD.none
theorem fD_eq {d : DD} {i : Nat} (h : i < d.fs.length) : d.fs[i] = fD d i := by
  unfold fD; rw [List.getElem?_eq_getElem h]; rfl

/-- blocks that may be a disk's -/
def DTy (base : Nat) (w : World) (k : Nat) : Prop := base ≤ k ∧ ∃ M t fr, w.heap[k]? = some (.cells M t fr) ∧ (t = 54 ∨ t = 83)
theorem dat_dty {w : World} {base db : Nat} {vs : List FV} {d : DD} (h : DAt w base db vs d) : ∀ k, DOwn db vs k → DTy base w k := by
  intro k hs
  refine ⟨(h.ownLt k hs).1, ?_⟩
  rcases hs with rfl | ⟨v, hv, hs⟩
  · exact ⟨_, _, _, h.row, .inl rfl⟩
  · obtain ⟨i, hi⟩ := List.mem_iff_getElem?.1 hv
    have hlt : i < d.fs.length := by rw [h.m3, ← h.n3]; exact (List.getElem?_eq_some_iff.1 hi).1
    obtain ⟨vals, ho, _⟩ := (h.each i v _ hi (List.getElem?_eq_getElem hlt)).steps
    rcases ho.2 with ⟨e, _⟩ | ⟨g, cap, cur, e, _, hg, _⟩
    · rw [e] at hs; simp [Value.ownBlock] at hs
    · rw [e] at hs
      simp [Value.ownBlock] at hs
      subst hs
      exact ⟨_, _, _, hg, .inr rfl⟩
/-- a disk of which no more is known than what it holds -/
def DX (base db : Nat) (d : DD) (w : World) : Prop := base ≤ w.heap.size ∧ ∃ vs, DAt w base db vs d
/-- what a call of a disk's has turned -/
def KT (base : Nat) (w w' : World) : Prop := Turns (DTy base w) w w'
theorem KT.refl (base : Nat) (w : World) : KT base w w := Turns.refl _ _
theorem KT.trans {base : Nat} {a b c : World} (h : KT base a b) (k : KT base b c) : KT base a c :=
  ⟨k.os.trans h.os, k.tape.trans h.tape, k.output.trans h.output, Nat.le_trans h.size k.size, fun i hi hS => by
    have e1 := h.block i hi hS
    have hS2 : ¬ DTy base b i := fun h' => hS (by
      obtain ⟨h1, M, t, fr, h2, h3⟩ := h'
      exact ⟨h1, M, t, fr, by rw [← e1]; exact h2, h3⟩)
    rw [k.block i (Nat.lt_of_lt_of_le hi h.size) hS2]; exact e1⟩
theorem KT.of_below {base : Nat} {a b : World} (h : Below a.heap.size a b) : KT base a b := Turns.of_below h
theorem KT.next {base : Nat} {a b c : World} (h : KT base a b) (k : Below b.heap.size b c) : KT base a c := h.trans (.of_below k)
theorem KT.below {base : Nat} {a b : World} (h : KT base a b) (hb : base ≤ a.heap.size) : Below base a b := Turns.below h hb (fun _ hi => hi.1)
theorem KT.row {base : Nat} {a b : World} (h : KT base a b) {k : Nat} {M : Array Value} {t : TypeId} {fr : Nat × Nat} (hr : a.heap[k]? = some (.cells M t fr)) (h1 : t ≠ 54) (h2 : t ≠ 83) : b.heap[k]? = some (.cells M t fr) :=
  Turns.keep h hr (fun ⟨_, M', t', fr', e, ht⟩ => by
    rw [hr] at e
    injection e with e1
    injection e1 with _ e2
    subst e2
    exact ht.elim h1 h2)
theorem KT.not {base : Nat} {a : World} {b e size n : Nat} {v : Value} {xs : List Value} (ho : a.ownsRow b e size v n xs) (h1 : e ≠ 54) (h2 : e ≠ 83) (k : Nat) (hk : v.ownBlock = some k) : ¬ DTy base a k := fun ⟨_, M', t', fr', e', ht⟩ => by
  rcases ho.2 with ⟨rfl, _⟩ | ⟨g, cap, cur, rfl, _, hg, _⟩
  · simp [Value.ownBlock] at hk
  · simp [Value.ownBlock] at hk
    subst hk
    rw [hg] at e'
    injection e' with e1
    injection e1 with _ e2
    subst e2
    exact ht.elim h1 h2
theorem KT.own {base : Nat} {a b : World} (h : KT base a b) {c e size n : Nat} {v : Value} {xs : List Value} (ho : a.ownsRow c e size v n xs) (h1 : e ≠ 54) (h2 : e ≠ 83) : b.ownsRow c e size v n xs :=
  own_touch ho h (fun k hk => KT.not ho h1 h2 k hk)
theorem DX.below {base db : Nat} {d : DD} {w w' : World} (h : DX base db d w) (hb : Below w.heap.size w w') : DX base db d w' := by
  obtain ⟨h0, vs, h1⟩ := h
  exact ⟨Nat.le_trans h0 hb.size, vs, h1.below hb⟩
theorem DX.left {base db : Nat} {vs : List FV} {d d' : DD} {w w' : World} (h : DAt w base db vs d) (h0 : base ≤ w.heap.size) (hl : LeftD base db vs d' w w') : DX base db d' w' ∧ KT base w w' := by
  obtain ⟨vs', h1, h2, _⟩ := hl
  exact ⟨⟨Nat.le_trans h0 h2.size, vs', h1⟩, h2.imp (fun k _ hk => dat_dty h k hk)⟩
/-- what a call leaves, with its answer -/
def StP (base db : Nat) (x : Int) (d' : DD) (w : World) (e : Ending) (w' : World) : Prop := e = .returned (.int .i64 x) ∧ DX base db d' w' ∧ KT base w w'
theorem fD_lt {w : World} {base db : Nat} {vs : List FV} {d : DD} (h : DAt w base db vs d) {i : Nat} (hi : i < 3) : i < d.fs.length := by rw [h.m3]; exact hi
theorem xappend {base db : Nat} {d : DD} (w : World) (h : DX base db d w) (i : Nat) (hi : i < 3) (p : Option Addr) (n c : Nat) (b : List UInt8) (hb : Bs w p n c b) (hn : n ≤ 140737488355328) (hfew : (fD d i).steps.length + 1 ≤ 4398046511104) :
    Calls Try.prog 9 #[.pointer (some ⟨db, 0, none⟩), .int .i64 (i : Int), .slice p n c] w (StP base db (doE d i (fD d i) (.put b)) (doD d i (fD d i) (.put b)) w) := by
  obtain ⟨h0, vs, h1⟩ := h
  refine (append_in w h1 h0 i (fD_lt h1 hi) (fD d i) (fD_eq (fD_lt h1 hi)) p n c b hb hn hfew).mono ?_
  rintro e w' ⟨he, hl⟩
  exact ⟨he, DX.left h1 h0 hl⟩
theorem xcut {base db : Nat} {d : DD} (w : World) (h : DX base db d w) (i : Nat) (hi : i < 3) (m : Nat) (hm : m ≤ (fD d i).now.length) (hfew : (fD d i).steps.length + 1 ≤ 4398046511104) :
    Calls Try.prog 15 #[.pointer (some ⟨db, 0, none⟩), .int .i64 (i : Int), .int .i64 (m : Int)] w (StP base db (doE d i (fD d i) (.cut m)) (doD d i (fD d i) (.cut m)) w) := by
  obtain ⟨h0, vs, h1⟩ := h
  refine (cut_in w h1 h0 i (fD_lt h1 hi) (fD d i) (fD_eq (fD_lt h1 hi)) m hm hfew).mono ?_
  rintro e w' ⟨he, hl⟩
  exact ⟨he, DX.left h1 h0 hl⟩
theorem xsync {base db : Nat} {d : DD} (w : World) (h : DX base db d w) (i : Nat) (hi : i < 3) :
    Calls Try.prog 10 #[.pointer (some ⟨db, 0, none⟩), .int .i64 (i : Int)] w (StP base db (syncE d) (syncD d i (fD d i)) w) := by
  obtain ⟨h0, vs, h1⟩ := h
  refine (sync_in w h1 h0 i (fD_lt h1 hi) (fD d i) (fD_eq (fD_lt h1 hi))).mono ?_
  rintro e w' ⟨he, hl⟩
  exact ⟨he, DX.left h1 h0 hl⟩
theorem xread {base db : Nat} {d : DD} (w : World) (h : DX base db d w) (i : Nat) (hi : i < 3) :
    Calls Try.prog 12 #[.pointer (some ⟨db, 0, none⟩), .int .i64 (i : Int)] w fun e w' => ∃ p c, e = .returned (.slice p (fD d i).now.length c) ∧ Bs w' p (fD d i).now.length c (fD d i).now ∧ Below w.heap.size w w' := by
  obtain ⟨h0, vs, h1⟩ := h
  have := read_in w h1 i (fD_lt h1 hi)
  rw [fD_eq (fD_lt h1 hi)] at this
  refine this.mono ?_
  rintro e w' ⟨p, c, he, hr, hb⟩
  obtain ⟨p', c', e1, hs⟩ := hr.bs
  cases e1
  exact ⟨p, c, he, hs, hb⟩
theorem xunits {base db : Nat} {d : DD} (w : World) (h : DX base db d w) (i : Nat) (hi : i < 3) :
    Calls Try.prog 23 #[.pointer (some ⟨db, 0, none⟩), .int .i64 (i : Int)] w fun e w' => e = .returned (.int .i64 (unitsAll (fD d i).steps : Int)) ∧ Below w.heap.size w w' := by
  obtain ⟨h0, vs, h1⟩ := h
  have := units_in w h1 i (fD_lt h1 hi)
  rw [fD_eq (fD_lt h1 hi)] at this
  exact this
theorem xsize {base db : Nat} {d : DD} (w : World) (h : DX base db d w) (i : Nat) (hi : i < 3) :
    Calls Try.prog 25 #[.pointer (some ⟨db, 0, none⟩), .int .i64 (i : Int)] w fun e w' => e = .returned (.int .i64 ((fD d i).now.length : Int)) ∧ Below w.heap.size w w' := by
  obtain ⟨h0, vs, h1⟩ := h
  have := size_in w h1 i (fD_lt h1 hi)
  rw [fD_eq (fD_lt h1 hi)] at this
  exact this
theorem DX.room {base db : Nat} {d : DD} {w : World} (h : DX base db d w) : 1 ≤ d.room ∧ d.room ≤ 65536 ∧ usedL d.fs ≤ d.room := by
  obtain ⟨_, vs, h1⟩ := h
  exact ⟨h1.room1.1, h1.room1.2, h1.used⟩
theorem DX.len3 {base db : Nat} {d : DD} {w : World} (h : DX base db d w) : d.fs.length = 3 := by
  obtain ⟨_, vs, h1⟩ := h
  exact h1.m3
theorem DX.ok {base db : Nat} {d : DD} {w : World} (h : DX base db d w) {i : Nat} (hi : i < 3) : (fD d i).Ok := by
  obtain ⟨_, vs, h1⟩ := h
  have hl := fD_lt h1 hi
  have := (h1.each i _ _ (List.getElem?_eq_getElem (by rw [h1.n3]; exact hi)) (List.getElem?_eq_getElem hl)).ok
  rwa [fD_eq hl] at this
theorem DX.le {base db : Nat} {d : DD} {w : World} (h : DX base db d w) {i : Nat} (hi : i < 3) : (fD d i).now.length ≤ 65536 := by
  have h1 := (h.ok hi).le
  have h2 := h.room
  have hl : i < d.fs.length := by rw [h.len3]; exact hi
  have h3 := usedL_mem hl
  rw [fD_eq hl] at h3
  omega
end Go.Proofs.Ytbkkcejpkfbcjaa.Rol

namespace Go.Proofs.Ytbkkcejpkfbcjaa.Rk
open Go.RowKit Go.Mir Go.Mir.Parts Dk Rol

theorem RDB.put {x : World} {ts : List RF} {d : DD} {g : Nat} {M A : Array Value} (h : RDB x ts d) (hz : x.heap[g]? = some (.cells M 37 (0, 0))) : RDB (x.setRow g A) ts d := h.step (KR.of_turn (turns_setRow _ _ _) hz)
theorem RDB.fd {x : World} {ts : List RF} {d : DD} (h : RDB x ts d) {i : Nat} (hi : i < 3) : d.fs[i]? = some (fD d i) := by
  have hl : i < d.fs.length := by rw [h.m3]; exact hi
  rw [List.getElem?_eq_getElem hl, fD_eq hl]
theorem rput_in (ts : List RF) (d : DD) (i : Nat) (hi : i < 3) (p : Option Addr) (B : List UInt8) (c : Nat) (w : World) (h : RDB w ts d) (hur : usedL d.fs ≤ d.room) (hb : Bs w p B.length c B) (hu : B.length ≤ 60000) (hfew : (fD d i).steps.length + 1 ≤ 2199023255552) :
    Calls Try.prog 13 #[.agg (rdA ts d), .int .i64 (i : Int), .slice p B.length c] w (ROut (doD d i (fD d i) (.put B)) (doE d i (fD d i) (.put B)) w) :=
  rappend_of ts d _ _ i p B c w h.n3 h.m3 hb (by omega) (fun w1 q k hb1 hq => rdo_put ts d i hi (fD d i) (h.fd hi) B q k w1 (h.below hb1) hur hq hu hfew)
theorem rput_out (ts : List RF) (d : DD) (i : Int) (hi : i < 0 ∨ 3 ≤ i) (p : Option Addr) (B : List UInt8) (c : Nat) (w : World) (h : RDB w ts d) (hb : Bs w p B.length c B) (hu : B.length ≤ 60000) :
    Calls Try.prog 13 #[.agg (rdA ts d), .int .i64 i, .slice p B.length c] w (ROut d 1 w) :=
  rappend_of ts d _ _ i p B c w h.n3 h.m3 hb (by omega) (fun w1 q k hb1 _ => rdo_out ts d i hi _ _ _ w1 (h.below hb1) ⟨_, rfl⟩ ⟨_, rfl⟩)
theorem rcut_in (ts : List RF) (d : DD) (i : Nat) (hi : i < 3) (m : Nat) (hm : m ≤ (fD d i).now.length) (w : World) (h : RDB w ts d) (hur : usedL d.fs ≤ d.room) (hfew : (fD d i).steps.length + 1 ≤ 2199023255552) :
    Calls Try.prog 14 #[.agg (rdA ts d), .int .i64 (i : Int), .int .i64 (m : Int)] w (ROut (doD d i (fD d i) (.cut m)) (doE d i (fD d i) (.cut m)) w) :=
  rcut_of ts d _ _ i m w h.n3 h.m3 (fun w1 hb1 => rdo_cut ts d i hi (fD d i) (h.fd hi) m hm w1 (h.below hb1) hur hfew)
theorem rcut_out (ts : List RF) (d : DD) (i z : Int) (hi : i < 0 ∨ 3 ≤ i) (w : World) (h : RDB w ts d) :
    Calls Try.prog 14 #[.agg (rdA ts d), .int .i64 i, .int .i64 z] w (ROut d 1 w) :=
  rcut_of ts d _ _ i z w h.n3 h.m3 (fun w1 hb1 => rdo_out ts d i hi _ _ _ w1 (h.below hb1) ⟨_, rfl⟩ ⟨_, rfl⟩)
theorem rcut_bad (ts : List RF) (d : DD) (i : Nat) (hi : i < 3) (z : Int) (hm : z < 0 ∨ ((fD d i).now.length : Int) < z) (w : World) (h : RDB w ts d) :
    Calls Try.prog 14 #[.agg (rdA ts d), .int .i64 (i : Int), .int .i64 z] w (ROut d 1 w) :=
  rcut_of ts d _ _ i z w h.n3 h.m3 (fun w1 hb1 => rdo_cutbad ts d i hi (fD d i) (h.fd hi) z hm w1 (h.below hb1))
theorem xkept {base db : Nat} {d : DD} (w : World) (h : DX base db d w) (i : Nat) (hi : i < 3) :
    Calls Try.prog 22 #[.pointer (some ⟨db, 0, none⟩), .int .i64 (i : Int)] w fun e w' => ∃ p c, e = .returned (.slice p (fD d i).kept.length c) ∧ Bs w' p (fD d i).kept.length c (fD d i).kept ∧ Below w.heap.size w w' := by
  obtain ⟨h0, vs, h1⟩ := h
  have := kept_in w h1 i (fD_lt h1 hi)
  rw [fD_eq (fD_lt h1 hi)] at this
  refine this.mono ?_
  rintro e w' ⟨p, c, he, hr, hb⟩
  obtain ⟨p', c', e1, hs⟩ := hr.bs
  cases e1
  exact ⟨p, c, he, hs, hb⟩
theorem xused {base db : Nat} {d : DD} (w : World) (h : DX base db d w) : Calls Try.prog 26 #[.pointer (some ⟨db, 0, none⟩)] w fun e w' => e = .returned (.int .i64 (usedL d.fs : Int)) ∧ w = w' := by
  obtain ⟨_, vs, h1⟩ := h
  exact used_any w h1
theorem xfuse {base db : Nat} {d : DD} (w : World) (h : DX base db d w) : Calls Try.prog 29 #[.pointer (some ⟨db, 0, none⟩)] w fun e w' => e = .returned (.int .i64 (d.fuse : Int)) ∧ w = w' := by
  obtain ⟨_, vs, h1⟩ := h
  exact fuse_any w h1

theorem kr_of_kt {base : Nat} {a b : World} (h : KT base a b) : KR 0 a b := h.imp (fun k _ ⟨_, M, t, fr, hm, ht⟩ => ⟨M, t, fr, hm, by
  rcases ht with rfl | rfl
  · exact ⟨by decide, by decide⟩
  · exact ⟨by decide, by decide⟩⟩)
/-- what a call answers, whatever file is told -/
def putE (d : DD) (i : Int) (b : List UInt8) : Int := if 0 ≤ i then (match d.fs[i.toNat]? with | some f => doE d i.toNat f (.put b) | none => 1) else 1
def cutE (d : DD) (i m : Int) : Int := if 0 ≤ i then (match d.fs[i.toNat]? with | some f => if 0 ≤ m ∧ m ≤ (f.now.length : Int) then doE d i.toNat f (.cut m.toNat) else 1 | none => 1) else 1
def synE (d : DD) (i : Int) : Int := if 0 ≤ i then (match d.fs[i.toNat]? with | some _ => syncE d | none => 1) else 1
/-- whether there is such a file -/
theorem files (d : DD) (h3 : d.fs.length = 3) (i : Int) : (∃ k : Nat, k < 3 ∧ i = (k : Int) ∧ d.fs[k]? = some (fD d k)) ∨ ((i < 0 ∨ 3 ≤ i) ∧ (¬ 0 ≤ i ∨ (0 ≤ i ∧ d.fs[i.toNat]? = none))) := by
  by_cases h0 : 0 ≤ i
  · by_cases h1 : i < 3
    · have hk : i.toNat < d.fs.length := by omega
      exact .inl ⟨i.toNat, by omega, by omega, by rw [List.getElem?_eq_getElem hk, fD_eq hk]⟩
    · exact .inr ⟨.inr (by omega), .inr ⟨h0, List.getElem?_eq_none (by omega)⟩⟩
  · exact .inr ⟨.inl (by omega), .inl h0⟩
theorem put_is {d : DD} {k : Nat} (h : d.fs[k]? = some (fD d k)) (b : List UInt8) : putD d (k : Int) b = doD d k (fD d k) (.put b) ∧ putE d (k : Int) b = doE d k (fD d k) (.put b) := by
  unfold putD putE
  rw [if_pos (by omega), if_pos (by omega), show ((k : Int)).toNat = k by omega, h]
  exact ⟨rfl, rfl⟩
theorem put_no {d : DD} {i : Int} (h : ¬ 0 ≤ i ∨ (0 ≤ i ∧ d.fs[i.toNat]? = none)) (b : List UInt8) : putD d i b = d ∧ putE d i b = 1 := by
  unfold putD putE
  rcases h with h | ⟨h0, h⟩
  · rw [if_neg h, if_neg h]; exact ⟨rfl, rfl⟩
  · rw [if_pos h0, if_pos h0, h]; exact ⟨rfl, rfl⟩
theorem cut_is {d : DD} {k : Nat} (h : d.fs[k]? = some (fD d k)) {m : Int} (hm : 0 ≤ m ∧ m ≤ ((fD d k).now.length : Int)) : cutD d (k : Int) m = doD d k (fD d k) (.cut m.toNat) ∧ cutE d (k : Int) m = doE d k (fD d k) (.cut m.toNat) := by
  unfold cutD cutE
  rw [if_pos (by omega), if_pos (by omega), show ((k : Int)).toNat = k by omega, h]
  dsimp only
  rw [if_pos hm, if_pos hm]
  exact ⟨rfl, rfl⟩
theorem cut_not {d : DD} {k : Nat} (h : d.fs[k]? = some (fD d k)) {m : Int} (hm : ¬ (0 ≤ m ∧ m ≤ ((fD d k).now.length : Int))) : cutD d (k : Int) m = d ∧ cutE d (k : Int) m = 1 := by
  unfold cutD cutE
  rw [if_pos (by omega), if_pos (by omega), show ((k : Int)).toNat = k by omega, h]
  dsimp only
  rw [if_neg hm, if_neg hm]
  exact ⟨rfl, rfl⟩
theorem cut_no {d : DD} {i : Int} (h : ¬ 0 ≤ i ∨ (0 ≤ i ∧ d.fs[i.toNat]? = none)) (m : Int) : cutD d i m = d ∧ cutE d i m = 1 := by
  unfold cutD cutE
  rcases h with h | ⟨h0, h⟩
  · rw [if_neg h, if_neg h]; exact ⟨rfl, rfl⟩
  · rw [if_pos h0, if_pos h0, h]; exact ⟨rfl, rfl⟩
theorem syn_is {d : DD} {k : Nat} (h : d.fs[k]? = some (fD d k)) : synD d (k : Int) = syncD d k (fD d k) ∧ synE d (k : Int) = syncE d := by
  unfold synD synE
  rw [if_pos (by omega), if_pos (by omega), show ((k : Int)).toNat = k by omega, h]
  exact ⟨rfl, rfl⟩
theorem syn_no {d : DD} {i : Int} (h : ¬ 0 ≤ i ∨ (0 ≤ i ∧ d.fs[i.toNat]? = none)) : synD d i = d ∧ synE d i = 1 := by
  unfold synD synE
  rcases h with h | ⟨h0, h⟩
  · rw [if_neg h, if_neg h]; exact ⟨rfl, rfl⟩
  · rw [if_pos h0, if_pos h0, h]; exact ⟨rfl, rfl⟩
/-! ### the document's -/
theorem rput_all (ts : List RF) (d : DD) (i : Int) (p : Option Addr) (B : List UInt8) (c : Nat) (w : World) (h : RDB w ts d) (hur : usedL d.fs ≤ d.room) (hb : Bs w p B.length c B) (hu : B.length ≤ 60000) (hfew : ∀ k, (fD d k).steps.length + 1 ≤ 2199023255552) :
    Calls Try.prog 13 #[.agg (rdA ts d), .int .i64 i, .slice p B.length c] w (ROut (putD d i B) (putE d i B) w) := by
  rcases files d h.m3 i with ⟨k, hk, rfl, hf⟩ | ⟨hi, hn⟩
  · obtain ⟨e1, e2⟩ := put_is hf B
    rw [e1, e2]
    exact rput_in ts d k hk p B c w h hur hb hu (hfew k)
  · obtain ⟨e1, e2⟩ := put_no hn B
    rw [e1, e2]
    exact rput_out ts d i hi p B c w h hb hu
theorem rcut_all (ts : List RF) (d : DD) (i m : Int) (w : World) (h : RDB w ts d) (hur : usedL d.fs ≤ d.room) (hfew : ∀ k, (fD d k).steps.length + 1 ≤ 2199023255552) :
    Calls Try.prog 14 #[.agg (rdA ts d), .int .i64 i, .int .i64 m] w (ROut (cutD d i m) (cutE d i m) w) := by
  rcases files d h.m3 i with ⟨k, hk, rfl, hf⟩ | ⟨hi, hn⟩
  · by_cases hm : 0 ≤ m ∧ m ≤ ((fD d k).now.length : Int)
    · obtain ⟨e1, e2⟩ := cut_is hf hm
      rw [e1, e2]
      have := rcut_in ts d k hk m.toNat (by omega) w h hur (hfew k)
      rwa [show ((m.toNat : Nat) : Int) = m by omega] at this
    · obtain ⟨e1, e2⟩ := cut_not hf hm
      rw [e1, e2]
      exact rcut_bad ts d k hk m (by omega) w h
  · obtain ⟨e1, e2⟩ := cut_no hn m
    rw [e1, e2]
    exact rcut_out ts d i m hi w h
theorem rsyn_all (ts : List RF) (d : DD) (i : Int) (w : World) (h : RDB w ts d) :
    Calls Try.prog 16 #[.agg (rdA ts d), .int .i64 i] w (ROut (synD d i) (synE d i) w) := by
  rcases files d h.m3 i with ⟨k, hk, rfl, hf⟩ | ⟨hi, hn⟩
  · obtain ⟨e1, e2⟩ := syn_is hf
    rw [e1, e2]
    exact rsync_in ts d k hk (fD d k) hf w h
  · obtain ⟨e1, e2⟩ := syn_no hn
    rw [e1, e2]
    exact rsync_out ts d i w h hi
/-! ### the program's -/
theorem xput_all {base db : Nat} {d : DD} (w : World) (h : DX base db d w) (i : Int) (p : Option Addr) (n c : Nat) (b : List UInt8) (hb : Bs w p n c b) (hn : n ≤ 140737488355328) (hfew : ∀ k, (fD d k).steps.length + 1 ≤ 2199023255552) :
    Calls Try.prog 9 #[.pointer (some ⟨db, 0, none⟩), .int .i64 i, .slice p n c] w (StP base db (putE d i b) (putD d i b) w) := by
  rcases files d h.len3 i with ⟨k, hk, rfl, hf⟩ | ⟨hi, hno⟩
  · obtain ⟨e1, e2⟩ := put_is hf b
    rw [e1, e2]
    exact xappend w h k hk p n c b hb hn (by have := hfew k; omega)
  · obtain ⟨e1, e2⟩ := put_no hno b
    rw [e1, e2]
    obtain ⟨h0, vs, h1⟩ := h
    exact (append_out w h1 i hi p n c b hb hn).mono fun e w' ⟨he, hb'⟩ => ⟨he, DX.below ⟨h0, vs, h1⟩ hb', KT.of_below hb'⟩
theorem xcut_all {base db : Nat} {d : DD} (w : World) (h : DX base db d w) (i m : Int) (hfew : ∀ k, (fD d k).steps.length + 1 ≤ 2199023255552) :
    Calls Try.prog 15 #[.pointer (some ⟨db, 0, none⟩), .int .i64 i, .int .i64 m] w (StP base db (cutE d i m) (cutD d i m) w) := by
  rcases files d h.len3 i with ⟨k, hk, rfl, hf⟩ | ⟨hi, hno⟩
  · by_cases hm : 0 ≤ m ∧ m ≤ ((fD d k).now.length : Int)
    · obtain ⟨e1, e2⟩ := cut_is hf hm
      rw [e1, e2]
      have := xcut w h k hk m.toNat (by omega) (by have := hfew k; omega)
      rwa [show ((m.toNat : Nat) : Int) = m by omega] at this
    · obtain ⟨e1, e2⟩ := cut_not hf hm
      rw [e1, e2]
      obtain ⟨h0, vs, h1⟩ := h
      have hlt := fD_lt h1 hk
      have hfe := fD_eq (d := d) hlt
      have hb : Calls Try.prog 31 #[.pointer (some ⟨db, 0, none⟩), .int .i64 (k : Int), .iface 78 (.agg #[.int .i64 m])] w fun e w' => e = .returned (.int .i64 1) ∧ Below w.heap.size w w' := by
        by_cases hl : m < 0
        · exact do_bad_lo w h1 k hlt _ hfe m hl
        · exact do_bad_hi w h1 k hlt _ hfe m (by omega)
      exact (cut_bad w _ m hb h1).mono fun e w' ⟨he, hb'⟩ => ⟨he, DX.below ⟨h0, vs, h1⟩ hb', KT.of_below hb'⟩
  · obtain ⟨e1, e2⟩ := cut_no hno m
    rw [e1, e2]
    obtain ⟨h0, vs, h1⟩ := h
    exact (cut_bad w i m (do_out w h1 i hi _ (.inr ⟨m, rfl⟩)) h1).mono fun e w' ⟨he, hb'⟩ => ⟨he, DX.below ⟨h0, vs, h1⟩ hb', KT.of_below hb'⟩
theorem xsyn_all {base db : Nat} {d : DD} (w : World) (h : DX base db d w) (i : Int) :
    Calls Try.prog 10 #[.pointer (some ⟨db, 0, none⟩), .int .i64 i] w (StP base db (synE d i) (synD d i) w) := by
  rcases files d h.len3 i with ⟨k, hk, rfl, hf⟩ | ⟨hi, hno⟩
  · obtain ⟨e1, e2⟩ := syn_is hf
    rw [e1, e2]
    exact xsync w h k hk
  · obtain ⟨e1, e2⟩ := syn_no hno
    rw [e1, e2]
    obtain ⟨h0, vs, h1⟩ := h
    exact (sync_out w h1 i hi).mono fun e w' ⟨he, hb'⟩ => by
      subst hb'
      exact ⟨he, ⟨h0, vs, h1⟩, KT.refl _ _⟩
theorem xarm {base db : Nat} {d : DD} (w : World) (h : DX base db d w) (n : Int) (hn : n ≤ 9223372036854775807) :
    Calls Try.prog 17 #[.pointer (some ⟨db, 0, none⟩), .int .i64 n] w fun e w' => e = .returned (.tuple #[]) ∧ DX base db ⟨d.fs, d.room, n.toNat, d.down⟩ w' ∧ KT base w w' := by
  obtain ⟨h0, vs, h1⟩ := h
  refine (arm_any w h1 n hn).mono ?_
  rintro e w' ⟨he, hd, ht⟩
  exact ⟨he, DX.left h1 h0 (LeftD.row h1 hd ht)⟩
theorem xcrash {base db : Nat} {d : DD} (w : World) (h : DX base db d w) (us : List Int) (p : Option Addr) (c : Nat) (hN : Ns w p us.length c us) (B : Nat) (hB : B ≤ base) (hap : ∀ a, p = some a → 0 < us.length → a.block < B) :
    Calls Try.prog 11 #[.pointer (some ⟨db, 0, none⟩), .slice p us.length c] w fun e w' => e = .returned (.tuple #[]) ∧ DX base db (crashD us d) w' ∧ KT base w w' := by
  obtain ⟨h0, vs, h1⟩ := h
  refine (crash_all w h1 h0 us p c hN B hB hap).mono ?_
  rintro e w' ⟨he, hl⟩
  exact ⟨he, DX.left h1 h0 hl⟩
theorem xroom {base db : Nat} {d : DD} (w : World) (h : DX base db d w) : Calls Try.prog 28 #[.pointer (some ⟨db, 0, none⟩)] w fun e w' => e = .returned (.int .i64 (d.room : Int)) ∧ w = w' := by
  obtain ⟨_, vs, h1⟩ := h
  exact room_any w h1
theorem xdown {base db : Nat} {d : DD} (w : World) (h : DX base db d w) : Calls Try.prog 30 #[.pointer (some ⟨db, 0, none⟩)] w fun e w' => e = .returned (.bool d.down) ∧ w = w' := by
  obtain ⟨_, vs, h1⟩ := h
  exact down_any w h1
/-- a disk that another's blocks were turned beside -/
theorem dat_apart {S : Nat → Prop} {w w' : World} {base db : Nat} {vs : List FV} {d : DD} (h : DAt w base db vs d) (ht : Turns S w w') (h8 : ∀ k M fr, w.heap[k]? = some (.cells M 5 fr) → ¬ S k) (ho : ∀ k, DOwn db vs k → ¬ S k) : DAt w' base db vs d :=
  ⟨Turns.keep ht h.row (ho db (.inl rfl)), h.low, h.n3, h.m3, fun i v f h1 h2 => (h.each i v f h1 h2).touch ht h8 (fun k hk => ho k (.inr ⟨v, List.mem_of_getElem? h1, hk⟩)), h.apart, h.room1, h.fuse1, h.used, h.few⟩
/-- Clone, and calls of the disk behind it: the copy stays -/
theorem clone_left {base db : Nat} {d : DD} (w : World) (h : DX base db d w) :
    Calls Try.prog 20 #[.pointer (some ⟨db, 0, none⟩)] w fun e w1 => ∃ nb vs, e = .returned (.pointer (some ⟨nb, 0, none⟩)) ∧ DAt w1 base db vs d ∧ Below w.heap.size w w1 ∧ ∀ w2 d2, LeftD base db vs d2 w1 w2 → DX base nb d w2 ∧ KT base w w2 := by
  obtain ⟨h0, vs, h1⟩ := h
  refine (clone_any w h1 h0).mono ?_
  rintro e w1 ⟨nb, vs2, he, hd, hb, hown⟩
  have h1w := h1.below hb
  refine ⟨nb, vs, he, h1w, hb, fun w2 d2 hl => ?_⟩
  obtain ⟨vs3, _, ht, _⟩ := hl
  refine ⟨⟨Nat.le_trans (Nat.le_trans h0 hb.size) ht.size, vs2, dat_apart hd ht h1w.no8 (fun k hk hs => ?_)⟩, ?_⟩
  · have a := hown k hk
    have b := (h1.ownLt k hs).2
    omega
  · exact (KT.of_below hb).trans (ht.imp (fun k _ hk => dat_dty h1w k hk))
end Go.Proofs.Ytbkkcejpkfbcjaa.Rk

namespace Go.Proofs.Ytbkkcejpkfbcjaa.Dk
open Go.RowKit Go.Mir Go.Mir.Parts

/-- how many bytes and units the calls hold -/
def dsum : List DOp → Nat
  | [] => 0
  | o :: r => (o.b.length + o.us.length) + dsum r
theorem dsum_take_succ : ∀ (l : List DOp) (k : Nat) (h : k < l.length), dsum (l.take (k + 1)) = dsum (l.take k) + ((l[k]).b.length + (l[k]).us.length)
  | o :: r, 0, _ => by simp [dsum]
  | o :: r, k + 1, h => by
    have := dsum_take_succ r k (by simpa using h)
    simp only [List.take_succ_cons, dsum, List.getElem_cons_succ, this]; omega
theorem dsum_take_le : ∀ (l : List DOp) (k : Nat), dsum (l.take k) ≤ dsum l
  | [], _ => by simp [dsum]
  | o :: r, 0 => by simp [dsum]
  | o :: r, k + 1 => by
    have := dsum_take_le r k
    simp only [List.take_succ_cons, dsum]; omega
theorem dsum_mem : ∀ {l : List DOp} {o : DOp}, o ∈ l → o.b.length + o.us.length ≤ dsum l
  | x :: r, o, h => by
    rcases List.mem_cons.1 h with rfl | h
    · simp [dsum]
    · have := dsum_mem h
      simp only [dsum]; omega
set_option maxRecDepth 100000 in
set_option maxHeartbeats 800000 in
theorem small18_any (os : List DOp) (p : Option Addr) (c : Nat) (rows : List (List Value)) (w : World) (h : DOps w p os.length c os rows) (hbl : os.length + dsum os ≤ 4611686018427387904) :
    Calls Try.prog 4 #[.slice p os.length c] w fun e w' => e = .returned (.bool (decide (os.length + dsum os ≤ 1500))) ∧ Below w.heap.size w w' := by
  obtain ⟨Z, hz, hZ⟩ := zDOp
  have HZZ := Lib.hid hZ
  have H := Lib.hid h
  have HBL := Lib.hid hbl
  have hle := h.rs.sl.le
  have hmax := h.rs.sl.max
  clear h hZ hbl
  go_enter Try.func4, Try.ntmps4
  go_wp2_with fail
  go_loopw [3, 10] (fun a j wr => ∃ k : Nat, k ≤ os.length ∧ j = .int .i64 k ∧ a = .int .i64 ((os.length + dsum (os.take k) : Nat) : Int) ∧ Below w.heap.size w wr) (fun _ j _ => os.length - (intOf j).toNat)
  case atStart => exact ⟨0, by omega, rfl, by simp [dsum], Below.refl _ _⟩
  case round =>
    obtain ⟨k, hk, rfl, rfl, hb0⟩ := hrel
    have HB0 := Lib.hid hb0
    clear hb0
    by_cases hlt : k < os.length
    · have hd : decide ((k : Int) < (os.length : Int)) = true := decide_eq_true (by omega)
      have hd2 : decide (k < os.length) = true := decide_eq_true hlt
      obtain ⟨b, o, rfl⟩ := H.out.rs.sl.addr (by omega) (by omega)
      obtain ⟨pb, cb, pu, cu, hbs, hns, hrg⟩ := H.out.at k hlt
      have HRG := Lib.hid (range_below hrg HB0.out)
      have hts := dsum_take_succ os k hlt
      have hx1 := dsum_take_le os (k + 1)
      have hx2 := HBL.out
      have HTS := Lib.hid hts
      generalize hoo : os[k] = oo at *
      have HOB : Hid (os[k].b.length + os[k].us.length = oo.b.length + oo.us.length) := by show _ = _; rw [hoo]
      clear hoo
      generalize hS : dsum (os.take k) = SS at *
      have hw0 : IntKind.i64.wrap ((oo.b.length : Int) + (oo.us.length : Int)) = (oo.b.length : Int) + (oo.us.length : Int) := IntWalk.i64_in _ (by omega)
      have hw1 : IntKind.i64.wrap (((os.length + SS : Nat) : Int) + ((oo.b.length : Int) + (oo.us.length : Int))) = ((os.length + dsum (os.take (k + 1)) : Nat) : Int) := by rw [IntWalk.i64_in _ (by omega)]; omega
      have hw2 : IntKind.i64.wrap (((os.length : Int) + (SS : Int)) + ((oo.b.length : Int) + (oo.us.length : Int))) = ((os.length + dsum (os.take (k + 1)) : Nat) : Int) := by rw [IntWalk.i64_in _ (by omega)]; omega
      have HSS : Hid (dsum (os.take k) = SS) := hS
      clear hts hx1 hx2 hbs hns hrg hS
      generalize dsum (os.take (k + 1)) = S2 at *
      obtain ⟨A, hA⟩ : ∃ A, A = dopA oo pb cb pu cu := ⟨_, rfl⟩
      have HOS : Hid (A.size = 5) := by show _ = _; rw [hA]; rfl
      have HOO : Hid (A.all (·.oneCell') = true) := by show _ = _; rw [hA]; exact dopA_one _ _ _ _ _
      have HOL : Hid (A.toList.length = 5) := by show _ = _; rw [Array.length_toList]; exact HOS.out
      have HNW := Lib.hid (box_new wr Z 40)
      have hbr := box_row wr Z A 40
      have HBB := Lib.hid (box_below wr Z A 40)
      have HB3 := Lib.hid (HB0.out.trans (HBB.out.mono HB0.out.size))
      rw [hA] at hbr
      obtain ⟨_, _, _, hc3, hc4⟩ := dopA_cell hbr
      rw [← hA] at hc3 hc4 HRG
      clear hbr hA
      go_wp2_with (first
        | ((with_reducible refine wpAt 13 ?_); refine wpList_load_mid rfl 40 _ rfl b (o + k * 5) rfl A.toList _ HRG.out Try.underlying40 rfl (infoDOp _ HOL.out) ?_)
        | ((with_reducible refine wpStoreAt 5 ?_); refine wpList_store_row rfl 40 _ _ rfl wr.heap.size A rfl rfl 40 Z HNW.out (infoDOp _ HOS.out) (HZZ.out.trans HOS.out.symm) HOO.out ?_))
      go_roundw
      case rel => exact ⟨k + 1, by omega, by go_num, by rw [dsum_take_succ os k hlt, HSS.out, HOB.out]; first | rfl | (refine congrArg (Value.int IntKind.i64) ?_; have e1 := HTS.out; omega), HB3.out⟩
      case measure => simp [intOf]; omega
    · have hd : decide ((k : Int) < (os.length : Int)) = false := decide_eq_false (by omega)
      have hd2 : decide (k < os.length) = false := decide_eq_false hlt
      obtain rfl : k = os.length := by omega
      rw [List.take_length]
      have hq : decide (((os.length + dsum os : Nat) : Int) ≤ 1500) = decide (os.length + dsum os ≤ 1500) := by rw [decide_eq_decide]; omega
      have hq2 : decide ((os.length : Int) + (dsum os : Int) ≤ 1500) = decide (os.length + dsum os ≤ 1500) := by rw [decide_eq_decide]; omega
      go_wp2_with fail
      go_ret
      exact ⟨by first | rfl | simp [hq, hq2], HB0.out⟩
end Go.Proofs.Ytbkkcejpkfbcjaa.Dk
