/- THE WALKS OF BLOCKS, on: the reference's word whether a block may be. Conditions: none. -/
import Derived.Test.YtdaigkcbmdcbcaaDoorBlk10
import Derived.Test.YtdaigkcbmdcbcaaDoorBlk9
namespace Go.Proofs.YtdaigkcbmdcbcaaDoor.Blk
open Go.RowKit Go.Mir Go.Mir.Parts

theorem nodup_take_succ {l : List (List UInt8)} {k : Nat} (h : k < l.length) : (l.take (k + 1)).Nodup ↔ (l.take k).Nodup ∧ l[k] ∉ l.take k := by
  rw [take_snoc l k h, List.nodup_append]
  constructor
  · rintro ⟨h1, _, h3⟩
    exact ⟨h1, fun hm => h3 _ hm _ (List.mem_singleton.2 rfl) rfl⟩
  · rintro ⟨h1, h2⟩
    exact ⟨h1, by simp, fun a ha b hb e => h2 (by rw [List.mem_singleton] at hb; rw [← hb, ← e]; exact ha)⟩
theorem nodup_of_take {l : List (List UInt8)} (k : Nat) (h : l.Nodup) : (l.take k).Nodup := h.sublist (List.take_sublist k l)

set_option maxRecDepth 100000 in
set_option maxHeartbeats 400000 in
theorem rRight_any (M : Array Value) (d : BlkD) (q : Option Addr) (n c : Nat) (w : World) (hM : BlkAt w M d q n c) :
    Calls Tryd.prog 13 #[.agg M] w fun e w' => e = .returned (.bool (rightB d)) ∧ Below w.heap.size w w' := by
  have HM := Lib.hid hM
  have hcap := hM.ids.sl.le
  have hmax := hM.ids.sl.max
  have HC : Hid (d.txs.length = n) := hM.ids.count
  have hqp : Hid (∀ w, (Op.equalIn 10000 23 (.agg (idA d.hash)) (.agg (idA d.par))).run Tryd.prog w = .ok (d.hash == d.par) w) := fun w => eqI w _ _ hM.hlen hM.plen
  have HH : Hid (d.hash.length = 32 ∧ d.par.length = 32) := ⟨hM.hlen, hM.plen⟩
  have HR0 := Lib.hid (heap_alloc_last w (.cells M 26))
  have HB0 : Hid (Below w.heap.size w (w.alloc (.cells M 26))) := Below.allocs _ _
  clear hM
  go_enter Tryd.func13, Tryd.ntmps13
  go_wp2_with fail
  generalize w.alloc (.cells M 26) = w2 at *
  go_loopw [3] (fun j wr => ∃ k : Nat, k ≤ n ∧ j = .int .i64 k ∧ (d.txs.take k).Nodup ∧ wr.heap[w.heap.size]? = some (.cells M 26 (0, 0)) ∧ Below w.heap.size w wr) (fun j _ => n - (intOf j).toNat)
  case atStart => exact ⟨0, by omega, rfl, by simp, HR0.out, HB0.out⟩
  case round =>
    obtain ⟨i, hi, rfl, hnd, hrow, hbw⟩ := hrel
    have HND := Lib.hid hnd
    have HROW := Lib.hid hrow
    have HBW := Lib.hid hbw
    have hc64 := (HM.out.parts hrow).2.2
    have HPP := Lib.hid (HM.out.parts hrow)
    clear hnd hrow hbw
    by_cases hlt : i < n
    · have hd : decide ((i : Int) < (n : Int)) = true := decide_eq_true (by omega)
      go_wp2_with fail
      clear hc64 HPP
      go_loopw [4] (fun j wr => ∃ k : Nat, k ≤ i ∧ j = .int .i64 k ∧ (∀ y, d.txs[i]? = some y → y ∉ d.txs.take k) ∧ wr.heap[w.heap.size]? = some (.cells M 26 (0, 0)) ∧ Below w.heap.size w wr) (fun j _ => i - (intOf j).toNat)
      case atStart => exact ⟨0, by omega, rfl, by simp, HROW.out, HBW.out⟩
      case round =>
        obtain ⟨k, hk, rfl, hnot, hrow2, hbw2⟩ := hrel
        have HNOT := Lib.hid hnot
        have HROW2 := Lib.hid hrow2
        have HBW2 := Lib.hid hbw2
        have hc64 := (HM.out.parts hrow2).2.2
        clear hnot hrow2 hbw2
        have hli : i < d.txs.length := by rw [HC.out]; exact hlt
        by_cases hltk : k < i
        · obtain ⟨b, o, rfl⟩ := HM.out.ids.sl.addr (by omega) (by omega)
          have hlk : k < d.txs.length := by omega
          have HRI := Lib.hid (range_grown ((HM.out.ids.below HBW2.out).range (by omega) i hli))
          have HRK := Lib.hid (range_grown ((HM.out.ids.below HBW2.out).range (by omega) k hlk))
          have HLI : Hid ((d.txs[i]'hli).length = 32) := HM.out.ids.each _ (List.getElem_mem _)
          have HLK : Hid ((d.txs[k]'hlk).length = 32) := HM.out.ids.each _ (List.getElem_mem _)
          have HGI : Hid (d.txs[i]? = some (d.txs[i]'hli)) := List.getElem?_eq_getElem hli
          have HNK := Lib.hid (HNOT.out _ HGI.out)
          have HTK := Lib.hid (take_snoc d.txs k hlk)
          have HDUP : Hid ((d.txs[k]'hlk) = (d.txs[i]'hli) → ¬ d.txs.Nodup) := fun h hn => by
            refine ((nodup_take_succ hli).1 (nodup_of_take _ hn)).2 ?_
            rw [← h]
            exact List.mem_iff_getElem?.2 ⟨k, by rw [List.getElem?_take, if_pos hltk, List.getElem?_eq_getElem hlk]⟩
          generalize d.txs[i]'hli = y at *
          generalize d.txs[k]'hlk = z at *
          have HYS : Hid ((idA y).size = 32) := by show _ = _; rw [idA_size, HLI.out]
          have HZS : Hid ((idA z).size = 32) := by show _ = _; rw [idA_size, HLK.out]
          have hd2 : decide ((k : Int) < (i : Int)) = true := decide_eq_true (by omega)
          have hk0 : (0 : Int) ≤ (k : Int) := by omega
          have hi0 : (0 : Int) ≤ (i : Int) := by omega
          have hkn : (k : Int) < (n : Int) := by omega
          have hin : (i : Int) < (n : Int) := by omega
          have hq : ∀ w, (Op.equalIn 10000 23 (.agg (idA z)) (.agg (idA y))).run Tryd.prog w = .ok (z == y) w := fun w => eqI w z y HLK.out HLI.out
          have hg64 := cell_grown hc64
          by_cases hzy : z = y
          · have hb : (z == y) = true := by rw [beq_iff_eq]; exact hzy
            have HRES : Hid (rightB d = false) := by
              show _ = _; unfold rightB; rw [decide_eq_false (HDUP.out hzy)]; simp
            clear hzy
            go_wp2_with fail
            refine wp_region_grow (by kernel_rfl) (by kernel_rfl) ?_
            repeat (first
              | refine wpQuiet_load rfl 23 _ rfl b (o + k * 32) rfl (idA z) _ HRK.out Tryd.underlying23 rfl (infoI _ HZS.out) ?_
              | refine wpQuiet_load rfl 23 _ rfl b (o + i * 32) rfl (idA y) _ HRI.out Tryd.underlying23 rfl (infoI _ HYS.out) ?_
              | quiet_step (fail))
            refine wpQuiet_nil ?_
            intro w4 hb4
            have HB4 := Lib.hid (HBW2.out.trans (hb4.mono HBW2.out.size))
            clear hb4 hq hg64 hc64
            go_wp2_with fail
            go_ret
            exact ⟨bret HRES.out.symm, HB4.out⟩
          · have hb : (z == y) = false := by rw [beq_eq_false_iff_ne]; exact hzy
            have HNE := Lib.hid hzy
            clear hzy
            go_wp2_with fail
            refine wp_region_grow (by kernel_rfl) (by kernel_rfl) ?_
            repeat (first
              | refine wpQuiet_load rfl 23 _ rfl b (o + k * 32) rfl (idA z) _ HRK.out Tryd.underlying23 rfl (infoI _ HZS.out) ?_
              | refine wpQuiet_load rfl 23 _ rfl b (o + i * 32) rfl (idA y) _ HRI.out Tryd.underlying23 rfl (infoI _ HYS.out) ?_
              | quiet_step (fail))
            refine wpQuiet_nil ?_
            intro w4 hb4
            have HB4 := Lib.hid (HBW2.out.trans (hb4.mono HBW2.out.size))
            have HR4 := Lib.hid (Below.keepOld hb4 HROW2.out)
            clear hb4 hq hg64 hc64
            go_wp2_with fail
            go_roundw
            case rel =>
              refine ⟨k + 1, by omega, by go_num, fun u hu hm => ?_, HR4.out, HB4.out⟩
              rw [HGI.out] at hu
              cases hu
              rw [HTK.out, List.mem_append, List.mem_singleton] at hm
              rcases hm with hm | hm
              · exact HNK.out hm
              · exact HNE.out hm.symm
            case measure => simp [intOf]; omega
        · have hd2 : decide ((k : Int) < (i : Int)) = false := decide_eq_false (by omega)
          have hki : k = i := by omega
          have HND2 : Hid ((d.txs.take (i + 1)).Nodup) := (nodup_take_succ hli).2 ⟨HND.out, by have := HNOT.out _ (List.getElem?_eq_getElem hli); rwa [hki] at this⟩
          clear hki
          go_wp2_with fail
          go_roundw
          case rel => exact ⟨i + 1, by omega, by go_num, HND2.out, HROW2.out, HBW2.out⟩
          case measure => simp [intOf]; omega
    · have hd : decide ((i : Int) < (n : Int)) = false := decide_eq_false (by omega)
      have HALL : Hid (d.txs.Nodup) := by
        have h1 := HND.out
        rwa [List.take_of_length_le (by rw [HC.out]; omega)] at h1
      have hq := hqp.out
      by_cases h32 : n ≤ 32
      · have hd0 : decide ((n : Int) ≤ 32) = true := decide_eq_true (by omega)
        have HRES : Hid (rightB d = !(d.hash == d.par)) := by
          show _ = _; unfold rightB; rw [HC.out, decide_eq_true h32, decide_eq_true HALL.out]; simp
        go_wp2_with (first
          | ((with_reducible refine wpAt 34 ?_); refine wpList_unguard rfl (wpList_load_mid rfl 23 _ rfl w.heap.size 0 rfl (idA d.hash).toList _ HPP.out.1 Tryd.underlying23 rfl (infoI _ (by rw [Array.length_toList, idA_size, HH.out.1])) ?_))
          | ((with_reducible refine wpAt 36 ?_); refine wpList_unguard rfl (wpList_load_mid rfl 23 _ rfl w.heap.size 32 rfl (idA d.par).toList _ HPP.out.2.1 Tryd.underlying23 rfl (infoI _ (by rw [Array.length_toList, idA_size, HH.out.2])) ?_)))
        go_ret
        exact ⟨bret HRES.out.symm, HBW.out⟩
      · have hd0 : decide ((n : Int) ≤ 32) = false := decide_eq_false (by omega)
        have HRES : Hid (rightB d = false) := by
          show _ = _; unfold rightB; rw [HC.out, decide_eq_false h32]; simp
        go_wp2_with fail
        go_ret
        exact ⟨bret HRES.out.symm, HBW.out⟩
end Go.Proofs.YtdaigkcbmdcbcaaDoor.Blk
