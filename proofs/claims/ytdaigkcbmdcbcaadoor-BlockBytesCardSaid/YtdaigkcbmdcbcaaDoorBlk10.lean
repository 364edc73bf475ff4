/- THE WALKS OF BLOCKS, on: may a block be (with the map that the call makes). Conditions: none. -/
import Derived.Test.YtdaigkcbmdcbcaaDoorBlk7
import Derived.Test.YtdaigkcbmdcbcaaDoorMaps
import Derived.Test.YtdaigkcbmdcbcaaDoorRows
import Derived.Deep.Cut
namespace Go.Proofs.YtdaigkcbmdcbcaaDoor.Blk
open Go.RowKit Go.Mir Go.Mir.Parts

theorem laidOutP : laidOutB Tryd.prog = true := by kernel_rfl
theorem idKeys : IdKeys Tryd.prog 23 :=
  idKeys_of Tryd.underlying23 Tryd.underlying5 (by kernel_rfl) (by kernel_rfl) (by kernel_rfl) (of_decide_eq_true (by kernel_rfl))
    (Maps.Keyed.of_law (deep_law_gate laidOutP (of_decide_eq_true (by kernel_rfl)) (of_decide_eq_true (by kernel_rfl)) (by kernel_rfl) (by kernel_rfl)))
theorem und_met : Tryd.prog.underlying 58 = some (.map 23 4) := Tryd.underlying58
theorem zbool (w : World) : (zeroValue 4).run Tryd.prog w = .ok (.bool false) w := by kernel_rfl
/-- may a block be? -/
def rightB (d : BlkD) : Bool := decide (d.txs.length ≤ 32) && !(d.hash == d.par) && decide d.txs.Nodup
/-- the ids met so far -/
def metF (l : List (List UInt8)) (y : List UInt8) : Option Value := if y ∈ l then some (.bool true) else none
theorem metF_look (l : List (List UInt8)) (y : List UInt8) : (metF l y).getD (.bool false) = .bool (decide (y ∈ l)) := by
  unfold metF; by_cases h : y ∈ l <;> simp [h]
theorem metF_snoc (l : List (List UInt8)) (y : List UInt8) : (fun z => if z = y then some (Value.bool true) else metF l z) = metF (l ++ [y]) := by
  funext z
  unfold metF
  by_cases h : z = y <;> simp [h]

set_option maxRecDepth 100000 in
set_option maxHeartbeats 400000 in
theorem right_any (M : Array Value) (d : BlkD) (q : Option Addr) (n c : Nat) (w : World) (hM : BlkAt w M d q n c) :
    Calls Tryd.prog 12 #[.agg M] w fun e w' => e = .returned (.bool (rightB d)) ∧ Below w.heap.size w w' := by
  have HM := Lib.hid hM
  have hcap := hM.ids.sl.le
  have hmax := hM.ids.sl.max
  have HC : Hid (d.txs.length = n) := hM.ids.count
  have hq : ∀ w, (Op.equalIn 10000 23 (.agg (idA d.hash)) (.agg (idA d.par))).run Tryd.prog w = .ok (d.hash == d.par) w := fun w => eqI w _ _ hM.hlen hM.plen
  have HH : Hid (d.hash.length = 32 ∧ d.par.length = 32) := ⟨hM.hlen, hM.plen⟩
  have hmm := @run_makeMap Tryd.prog
  have HW : Hid (Below w.heap.size w ((w.alloc (.cells M 26)).alloc (.map #[] 0))) := (Below.allocs _ _).alloc (by simp) _
  have HK := Lib.hid (Below.keepOld (Below.allocs (w.alloc (.cells M 26)) (.map #[] 0)) (heap_alloc_last w (.cells M 26)))
  have HMP : Hid (MapIs ((w.alloc (.cells M 26)).alloc (.map #[] 0)) (w.heap.size + 1) (metF [])) := by
    have h := mapIs_made (w.alloc (.cells M 26))
    have hs : (w.alloc (.cells M 26)).heap.size = w.heap.size + 1 := by simp
    rw [hs] at h
    exact h
  have hc := (hM.parts HK.out).2.2
  have HR := Lib.hid (hM.parts HK.out)
  obtain ⟨f0, hf0⟩ : ∃ f : Bool, f = (decide (n ≤ 32) && !(d.hash == d.par)) := ⟨_, rfl⟩
  have HF0 : Hid (f0 = (decide (n ≤ 32) && !(d.hash == d.par))) := hf0
  clear hM hf0
  go_enter Tryd.func12, Tryd.ntmps12
  go_wp2_with fail
  go_step3
  go_upto_region 2 with fail
  generalize (w.alloc (.cells M 26)).alloc (.map #[] 0) = w2 at *
  try simp only [Act.put, List.setIfInBounds_toArray, List.set_cons_zero, List.set_cons_succ]
  go_cut [4] from 7 (fun s4 wx => s4 = .bool f0 ∧ wx = w2)
  case first =>
    by_cases h32 : n ≤ 32
    · have hd0 : decide ((n : Int) ≤ 32) = true := decide_eq_true (by omega)
      go_wp2_with (first
        | ((with_reducible refine wpAt 14 ?_); refine wpList_unguard rfl (wpList_load_mid rfl 23 _ rfl w.heap.size 0 rfl (idA d.hash).toList _ HR.out.1 Tryd.underlying23 rfl (infoI _ (by rw [Array.length_toList, idA_size, HH.out.1])) ?_))
        | ((with_reducible refine wpAt 16 ?_); refine wpList_unguard rfl (wpList_load_mid rfl 23 _ rfl w.heap.size 32 rfl (idA d.par).toList _ HR.out.2.1 Tryd.underlying23 rfl (infoI _ (by rw [Array.length_toList, idA_size, HH.out.2])) ?_)))
      go_meet
      exact ⟨by rw [HF0.out, decide_eq_true h32]; simp, rfl⟩
    · have hd0 : decide ((n : Int) ≤ 32) = false := decide_eq_false (by omega)
      go_wp2_with fail
      go_meet
      exact ⟨by rw [HF0.out, decide_eq_false h32]; simp, rfl⟩
  obtain ⟨rfl, hw2⟩ := hcut
  subst hw2
  clear hq
  go_wp2_with fail
  go_step3
  go_wp2_with fail
  have HRT : Hid (f0 = true → rightB d = decide d.txs.Nodup) := fun h => by
    unfold rightB; rw [HC.out, ← HF0.out, h]; rfl
  have HRF : Hid (f0 = false → rightB d = false) := fun h => by
    unfold rightB; rw [HC.out, ← HF0.out, h]; rfl
  generalize hwc : wc = w2 at *
  clear hwc wc hc HR HF0
  go_loopw [4, 22] (fun f j wr => ∃ k : Nat, k ≤ n ∧ j = .int .i64 k ∧ f = .bool f0 ∧ (0 < k → f0 = true) ∧ (d.txs.take k).Nodup ∧ MapIs wr (w.heap.size + 1) (metF (d.txs.take k)) ∧ Below w.heap.size w wr) (fun _ j _ => n - (intOf j).toNat)
  case atStart => exact ⟨0, by omega, rfl, rfl, by omega, by simp, by simpa using HMP.out, HW.out⟩
  case round =>
    obtain ⟨k, hk, rfl, rfl, hpos, hnd, hmp, hbw⟩ := hrel
    have HPOS := Lib.hid hpos
    have HND := Lib.hid hnd
    have HMW := Lib.hid hmp
    have HBW := Lib.hid hbw
    clear hpos hnd hmp hbw
    by_cases hlt : k < n
    · obtain ⟨b, o, rfl⟩ := HM.out.ids.sl.addr (by omega) (by omega)
      have hlk : k < d.txs.length := by rw [HC.out]; exact hlt
      have HRG := Lib.hid ((HM.out.ids.below HBW.out).range (by omega) k hlk)
      have HLK : Hid ((d.txs[k]'hlk).length = 32) := HM.out.ids.each _ (List.getElem_mem _)
      have HTK := Lib.hid (take_snoc d.txs k hlk)
      have HNN : Hid (d.txs[k]'hlk ∈ d.txs.take k → ¬ d.txs.Nodup) := fun h hn => by
        have h2 := List.take_append_drop k d.txs
        rw [← h2, List.nodup_append] at hn
        refine hn.2.2 _ h _ ?_ rfl
        rw [List.drop_eq_getElem_cons hlk]; exact List.mem_cons_self
      generalize d.txs[k]'hlk = y at *
      have HYS : Hid ((idA y).size = 32) := by show _ = _; rw [idA_size, HLK.out]
      have HYL : Hid ((idA y).toList.length = 32) := by show _ = _; rw [Array.length_toList, HYS.out]
      have HNW := Lib.hid (box_new wr (idA zeros) 23)
      have HBR := Lib.hid (box_row wr (idA zeros) (idA y) 23)
      have HBB := Lib.hid (box_below wr (idA zeros) (idA y) 23)
      have HB3 := Lib.hid (HBW.out.trans (HBB.out.mono HBW.out.size))
      have HM3 := Lib.hid (HMW.out.below HBB.out)
      have hd : decide ((k : Int) < (n : Int)) = true := decide_eq_true (by omega)
      have hz := zeroI
      have hlook := HM3.out.look idKeys und_met (zbool _) y HLK.out
      rw [metF_look] at hlook
      by_cases hin : y ∈ d.txs.take k
      · have hb : decide (y ∈ d.txs.take k) = true := decide_eq_true hin
        have HRES : Hid (rightB d = false) := by
          cases hf : f0 with
          | false => exact HRF.out hf
          | true => show _ = _; rw [HRT.out hf]; exact decide_eq_false (HNN.out hin)
        rw [hb] at hlook
        clear hin hb
        go_wp2_with (first
          | ((with_reducible refine wpAt 25 ?_); refine wpList_load_mid rfl 23 _ rfl b (o + k * 32) rfl (idA y).toList _ HRG.out Tryd.underlying23 rfl (infoI _ HYL.out) ?_)
          | ((with_reducible refine wpStoreAt 6 ?_); refine wpList_store_row rfl 23 _ _ rfl wr.heap.size (idA y) rfl rfl 23 (idA zeros) HNW.out (infoI _ HYS.out) (zeros_size.trans HYS.out.symm) (idA_one y) ?_)
          | ((with_reducible refine wpAt 27 ?_); refine wpList_load_row rfl 23 _ rfl wr.heap.size rfl 23 (idA y) (0, 0) _ HBR.out Tryd.underlying23 rfl (infoI _ HYS.out) ?_))
        rw [Exit.noGoto_ret]
        go_ret
        exact ⟨bret HRES.out.symm, HB3.out⟩
      · have hb : decide (y ∈ d.txs.take k) = false := decide_eq_false hin
        rw [hb] at hlook
        cases hf : f0 with
        | false =>
          have HRES := Lib.hid (HRF.out hf)
          clear hin hb
          go_wp2_with (first
            | ((with_reducible refine wpAt 25 ?_); refine wpList_load_mid rfl 23 _ rfl b (o + k * 32) rfl (idA y).toList _ HRG.out Tryd.underlying23 rfl (infoI _ HYL.out) ?_)
            | ((with_reducible refine wpStoreAt 6 ?_); refine wpList_store_row rfl 23 _ _ rfl wr.heap.size (idA y) rfl rfl 23 (idA zeros) HNW.out (infoI _ HYS.out) (zeros_size.trans HYS.out.symm) (idA_one y) ?_)
            | ((with_reducible refine wpAt 27 ?_); refine wpList_load_row rfl 23 _ rfl wr.heap.size rfl 23 (idA y) (0, 0) _ HBR.out Tryd.underlying23 rfl (infoI _ HYS.out) ?_)
            | ((with_reducible refine wpAt 34 ?_); refine wpList_load_row rfl 23 _ rfl wr.heap.size rfl 23 (idA y) (0, 0) _ HBR.out Tryd.underlying23 rfl (infoI _ HYS.out) ?_))
          rw [Exit.noGoto_ret]
          go_ret
          exact ⟨bret HRES.out.symm, HB3.out⟩
        | true =>
          obtain ⟨w6, hst, hm6, ht6⟩ := HM3.out.store idKeys und_met y HLK.out (.bool true)
          rw [metF_snoc, ← HTK.out] at hm6
          have HM6 := Lib.hid hm6
          have HB6 := Lib.hid (HB3.out.trans (ht6.below HB3.out.size (fun i hi => by rw [hi]; exact Nat.le_succ _)))
          have HND6 : Hid (d.txs.take (k + 1)).Nodup := by
            show List.Nodup _
            rw [HTK.out, List.nodup_append]
            refine ⟨HND.out, by simp, fun a ha b hb e => hin ?_⟩
            rw [List.mem_singleton] at hb
            rw [← hb, ← e]; exact ha
          clear hin hb hm6 ht6
          go_wp2_with (first
            | ((with_reducible refine wpAt 25 ?_); refine wpList_load_mid rfl 23 _ rfl b (o + k * 32) rfl (idA y).toList _ HRG.out Tryd.underlying23 rfl (infoI _ HYL.out) ?_)
            | ((with_reducible refine wpStoreAt 6 ?_); refine wpList_store_row rfl 23 _ _ rfl wr.heap.size (idA y) rfl rfl 23 (idA zeros) HNW.out (infoI _ HYS.out) (zeros_size.trans HYS.out.symm) (idA_one y) ?_)
            | ((with_reducible refine wpAt 27 ?_); refine wpList_load_row rfl 23 _ rfl wr.heap.size rfl 23 (idA y) (0, 0) _ HBR.out Tryd.underlying23 rfl (infoI _ HYS.out) ?_)
            | ((with_reducible refine wpAt 34 ?_); refine wpList_load_row rfl 23 _ rfl wr.heap.size rfl 23 (idA y) (0, 0) _ HBR.out Tryd.underlying23 rfl (infoI _ HYS.out) ?_))
          go_roundw
          case rel => exact ⟨k + 1, by omega, by go_num, rfl, fun _ => (by first | trivial | exact hf), HND6.out, HM6.out, HB6.out⟩
          case measure => simp [intOf]; omega
    · have hd : decide ((k : Int) < (n : Int)) = false := decide_eq_false (by omega)
      have HRES : Hid (rightB d = f0) := by
        cases hf : f0 with
        | false => exact HRF.out hf
        | true =>
          show _ = _
          rw [HRT.out hf]
          have h1 := HND.out
          rw [List.take_of_length_le (by rw [HC.out]; omega)] at h1
          exact decide_eq_true h1
      go_wp2_with fail
      rw [Exit.noGoto_ret]
      go_ret
      exact ⟨bret HRES.out.symm, HBW.out⟩
end Go.Proofs.YtdaigkcbmdcbcaaDoor.Blk
