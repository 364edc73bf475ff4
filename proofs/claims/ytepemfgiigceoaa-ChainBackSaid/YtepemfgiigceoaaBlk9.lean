/- THE WALKS OF BLOCKS, on: the reference's ids with a hint. Conditions: as in the first part. -/
import Derived.Test.YtepemfgiigceoaaBlk8
namespace Go.Proofs.Ytepemfgiigceoaa.Blk
open Go.RowKit Go.Mir Go.Mir.Parts

theorem range_grown_row0 {w : World} {b : Nat} {A : Array Value} {t : TypeId} {fr : Nat × Nat} (h : w.heap[b]? = some (.cells A t fr)) : ∀ z : Grown w, z.v.rangeAt b 0 A.toList := fun z => range_grown_row h z
set_option maxRecDepth 100000 in
set_option maxHeartbeats 400000 in
theorem rHinted_any (M : Array Value) (d : BlkD) (q : Option Addr) (n c : Nat) (h : List UInt8) (w : World) (hM : BlkAt w M d q n c) (hh : h.length = 16) (hn : n ≤ 1099511627776) :
    Calls Try.prog 25 #[.agg M, .agg (idA h)] w (IdsP (hintedL h d.txs) w) := by
  have HM := Lib.hid hM
  have HH := Lib.hid hh
  have hcnt : d.txs.length = n := hM.ids.count
  have hcap := hM.ids.sl.le
  have hmax := hM.ids.sl.max
  have HC := Lib.hid hcnt
  clear hM hh hcnt
  go_enter Try.func25, Try.ntmps25
  have H2 := Lib.hid (two_allocs w (.cells M 33) (.cells (idA h) 52))
  have hc64 := (HM.out.parts H2.out.1).2.2
  go_wp2_with fail
  have HR := Lib.hid H2.out.2.1
  have HRM0 := Lib.hid H2.out.1
  have HB := Lib.hid H2.out.2.2.2
  generalize (w.alloc (.cells M 33)).alloc (.cells (idA h) 52) = w2 at *
  clear hc64
  go_loopw [5, 6] (fun v j wr => ∃ (k : Nat) (p : Option Addr) (m cc : Nat), k ≤ n ∧ j = .int .i64 k ∧ v = .slice p m cc ∧ m = (hintedL h (d.txs.take k)).length ∧ wr.ownsRow w.heap.size 30 32 v m ((hintedL h (d.txs.take k)).flatMap bytesV) ∧ wr.heap[w.heap.size]? = some (.cells M 33 (0, 0)) ∧ wr.heap[w.heap.size + 1]? = some (.cells (idA h) 52 (0, 0)) ∧ Below w.heap.size w wr) (fun _ j _ => n - (intOf j).toNat)
  case atStart => exact ⟨0, none, 0, 0, by omega, rfl, rfl, rfl, ⟨rfl, .inl ⟨rfl, rfl⟩⟩, HRM0.out, HR.out, HB.out⟩
  case round =>
    obtain ⟨k, p, m, cc, hk, rfl, rfl, hm, hown, hrm, hrow, hbw⟩ := hrel
    have HRM := Lib.hid hrm
    have hc64 := (HM.out.parts hrm).2.2
    have HMM := Lib.hid hm
    have HOW := Lib.hid hown
    have HROW := Lib.hid hrow
    have HBW := Lib.hid hbw
    have hmle : m ≤ n := by
      rw [hm]
      have h1 := List.length_filter_le (fun y => y.take 16 == h) (d.txs.take k)
      have h2 : (d.txs.take k).length ≤ k := by rw [List.length_take]; omega
      unfold hintedL; omega
    clear hown hrm hrow hbw hm
    by_cases hlt : k < n
    · obtain ⟨b, o, rfl⟩ := HM.out.ids.sl.addr (by omega) (by omega)
      have hlk : k < d.txs.length := by rw [HC.out]; exact hlt
      have HRG0 := Lib.hid ((HM.out.ids.below HBW.out).range (by omega) k hlk)
      have HLK : Hid ((d.txs[k]'hlk).length = 32) := HM.out.ids.each _ (List.getElem_mem _)
      have HFS : Hid (hintedL h (d.txs.take (k + 1)) = hintedL h (d.txs.take k) ++ if (d.txs[k]'hlk).take 16 == h then [d.txs[k]'hlk] else []) := filter_snoc _ _ k hlk
      generalize d.txs[k]'hlk = y at *
      have HRG := Lib.hid (range_grown HRG0.out)
      have HYS : Hid ((idA y).size = 32) := by show _ = _; rw [idA_size, HLK.out]
      have HYL : Hid ((idA y).toList.length = 32) := by show _ = _; rw [Array.length_toList, HYS.out]
      have hd : decide ((k : Int) < (n : Int)) = true := decide_eq_true (by omega)
      have hq : ∀ w, (Op.equalIn 10000 52 (.agg (idA (y.take 16))) (.agg (idA h))).run Try.prog w = .ok (y.take 16 == h) w := fun w => eqH w _ h (by rw [List.length_take, HLK.out]; rfl) HH.out
      have HG2 := Lib.hid (range_grown_row0 HROW.out)
      have hg64 := cell_grown hc64
      by_cases hyx : (y.take 16 == h) = true
      · go_wp2_with fail
        refine wp_region_grow (by kernel_rfl) (by kernel_rfl) ?_
        repeat (first
          | refine wpQuiet_load rfl 30 _ rfl b (o + k * 32) rfl (idA y) _ HRG.out Try.underlying30 rfl (infoI _ HYS.out) ?_
          | refine wpQuiet_load rfl 52 _ rfl (w.heap.size + 1) 0 rfl (idA h) _ HG2.out Try.underlying52 rfl (infoH _ (by rw [idA_size, HH.out])) ?_
          | quiet_step ((first | (go_at_call 46; exact Calls.grow_of (rHint_any y _ HLK.out)))))
        refine wpQuiet_nil ?_
        intro w4 hb4
        have HRM4 := Lib.hid (Below.keepOld hb4 HRM.out)
        have HR4 := Lib.hid (Below.keepOld hb4 HROW.out)
        have HB4 := Lib.hid (HBW.out.trans (hb4.mono HBW.out.size))
        have HO4 := Lib.hid (own_touch HOW.out (Turns.of_below (S := fun _ => False) hb4) (fun _ _ h => h))
        have HRG4 : Hid (w4.rangeAt b (o + k * 32) (idA y).toList) := fun j v hv => by
          have := HRG0.out j v hv
          rw [hb4.cell (block_lt_of_cell this)]; exact this
        have hd64 := (HM.out.parts HRM4.out).2.2
        clear hb4 hq hg64 hc64
        have HSL : Hid (Sl (w4.alloc (.cells (idA y) 30)) (some ⟨w4.heap.size, 0, none⟩) 1 1 32 (bytesV y)) := made_id w4 y _ _ (idA_toList y) HLK.out
        have HO5 : Hid ((w4.alloc (.cells (idA y) 30)).ownsRow w.heap.size 30 32 (.slice p m cc) m ((hintedL h (d.txs.take k)).flatMap bytesV)) := HO4.out.alloc _
        have HSZ4 : Hid (w.heap.size ≤ (w4.alloc (.cells (idA y) 30)).heap.size) := by have := HB4.out.size; show _ ≤ _; simp; omega
        go_wp2_with (first
          | ((with_reducible refine wpAt 27 ?_); refine wpList_load_mid rfl 30 _ rfl b (o + k * 32) rfl (idA y).toList _ HRG4.out Try.underlying30 rfl (infoI _ HYL.out) ?_)
          | refine wpList_buildOne rfl 31 30 _ rfl (idA y) rfl 32 Try.underlying31 (by kernel_rfl) (by omega) (by omega) HYS.out ?_
          | (at_builtin; refine wpList_append_nx rfl _ _ 31 rfl (base := w.heap.size) Try.underlying31 infoIds (by rw [show (Value.agg (idA zeros)).cells = idA zeros from rfl]; exact zeros_size) (by omega) rfl HO5.out rfl HSL.out (bytesV_one _) (by omega) HSZ4.out ?_))
        intro p' c' w5 hown hg hnx hne
        have hr5 : w5.heap[w.heap.size + 1]? = some (.cells (idA h) 52 (0, 0)) := by
          have h1 := block_old (.cells (idA y) 30) HR4.out
          rw [hg.block _ (Array.getElem?_eq_some_iff.1 h1).1 (fun e => own_ne_cells HOW.out HROW.out (by decide) _ e.symm rfl)]
          exact h1
        have hrm5 : w5.heap[w.heap.size]? = some (.cells M 33 (0, 0)) := by
          have h1 := block_old (.cells (idA y) 30) HRM4.out
          rw [hg.block _ (Array.getElem?_eq_some_iff.1 h1).1 (fun e => own_ne_cells HOW.out HRM.out (by decide) _ e.symm rfl)]
          exact h1
        have HRM5 := Lib.hid hrm5
        have hb5 : Below w.heap.size w w5 := (HB4.out.alloc HB4.out.size _).grown hg HSZ4.out (fun i hi => (HO5.out.lt i hi).1)
        have HO6 := Lib.hid hown
        have HR5 := Lib.hid hr5
        have HB5 := Lib.hid hb5
        have HT : Hid (hintedL h (d.txs.take (k + 1)) = hintedL h (d.txs.take k) ++ [y]) := by show _ = _; rw [HFS.out, if_pos hyx]
        clear hown hg hnx hne hr5 hrm5 hb5 hd64
        go_wp2_with fail
        go_roundw
        case rel =>
          refine ⟨k + 1, p', m + 1, c', by omega, by go_num, rfl, by rw [HT.out, List.length_append, ← HMM.out]; rfl, ?_, HRM5.out, HR5.out, HB5.out⟩
          have := HO6.out
          rw [HT.out, List.flatMap_append]
          simpa using this
        case measure => simp [intOf]; omega
      · have hyx' : (y.take 16 == h) = false := by simpa using hyx
        have HT : Hid (hintedL h (d.txs.take (k + 1)) = hintedL h (d.txs.take k)) := by show _ = _; rw [HFS.out, hyx']; simp
        clear hyx
        go_wp2_with fail
        refine wp_region_grow (by kernel_rfl) (by kernel_rfl) ?_
        repeat (first
          | refine wpQuiet_load rfl 30 _ rfl b (o + k * 32) rfl (idA y) _ HRG.out Try.underlying30 rfl (infoI _ HYS.out) ?_
          | refine wpQuiet_load rfl 52 _ rfl (w.heap.size + 1) 0 rfl (idA h) _ HG2.out Try.underlying52 rfl (infoH _ (by rw [idA_size, HH.out])) ?_
          | quiet_step ((first | (go_at_call 46; exact Calls.grow_of (rHint_any y _ HLK.out)))))
        refine wpQuiet_nil ?_
        intro w4 hb4
        have HRM4 := Lib.hid (Below.keepOld hb4 HRM.out)
        have HR4 := Lib.hid (Below.keepOld hb4 HROW.out)
        have HB4 := Lib.hid (HBW.out.trans (hb4.mono HBW.out.size))
        have HO4 := Lib.hid (own_touch HOW.out (Turns.of_below (S := fun _ => False) hb4) (fun _ _ h => h))
        have HRG4 : Hid (w4.rangeAt b (o + k * 32) (idA y).toList) := fun j v hv => by
          have := HRG0.out j v hv
          rw [hb4.cell (block_lt_of_cell this)]; exact this
        have hd64 := (HM.out.parts HRM4.out).2.2
        clear hb4 hq hg64 hc64
        go_wp2_with fail
        go_roundw
        case rel => exact ⟨k + 1, p, m, cc, by omega, by go_num, rfl, by rw [HT.out]; exact HMM.out, by rw [HT.out]; exact HO4.out, HRM4.out, HR4.out, HB4.out⟩
        case measure => simp [intOf]; omega
    · have HE : Hid (hintedL h (d.txs.take k) = hintedL h d.txs) := by show _ = _; rw [List.take_of_length_le (by rw [HC.out]; omega)]
      have HAL : Hid (∀ x ∈ hintedL h d.txs, x.length = 32) := fun x hx => HM.out.ids.each x (List.mem_filter.1 hx).1
      have HFIN : Hid (IdsP (hintedL h d.txs) w (.returned (.slice p m cc)) wr) := by
        refine ids_of_own ?_ HAL.out HBW.out
        have h1 := HOW.out
        rw [HMM.out, HE.out] at h1
        rw [HMM.out, HE.out]
        exact h1
      have hd : decide ((k : Int) < (n : Int)) = false := decide_eq_false (by omega)
      go_wp2_with fail
      go_ret
      exact HFIN.out
end Go.Proofs.Ytepemfgiigceoaa.Blk
