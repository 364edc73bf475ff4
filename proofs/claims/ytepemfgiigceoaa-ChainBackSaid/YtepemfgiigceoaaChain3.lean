/- THE WALKS OF A CHAIN, on: the tip of an empty one; a block found. Conditions: none. -/
import Derived.Test.YtepemfgiigceoaaChain2
namespace Go.Proofs.Ytepemfgiigceoaa.Chn
open Go.RowKit Go.Mir Go.Mir.Parts Go.Proofs.Ytepemfgiigceoaa.Blk

set_option maxRecDepth 100000 in
set_option maxHeartbeats 400000 in
theorem tip_none {base cb depth height : Nat} {p : Option Addr} {c : Nat} {rows : List (List Value)} (w : World) (h : ChAt w base cb depth height [] p c rows) :
    Calls Try.prog 16 #[.pointer (some ⟨cb, 0, none⟩)] w fun e w' => e = .returned (.tuple #[.agg (blkA zeros zeros none 0 0), .bool false]) ∧ Below w.heap.size w w' := by
  obtain ⟨Z, hz, HZE⟩ : ∃ Z : Array Value, (∀ w0, (zeroValue 33).run Try.prog w0 = .ok (.agg Z) w0) ∧ Hid (Z = blkA zeros zeros none 0 0) := ⟨blkA zeros zeros none 0 0, fun w0 => by kernel_rfl, rfl⟩
  have hzs : Z.size = 65 := by rw [HZE.out]; kernel_rfl
  have hzo : Z.all (·.oneCell') = true := by rw [HZE.out]; kernel_rfl
  have H := Lib.hid h
  have hb1 : Below w.heap.size w (w.alloc (.cells Z 33)) := Below.allocs _ _
  have HB1 := Lib.hid hb1
  have H1 := Lib.hid (h.below hb1)
  have HR1 := Lib.hid (heap_alloc_last w (.cells Z 33))
  have hc2 := H1.out.cells.2.2.1
  clear h hb1
  go_enter Try.func16, Try.ntmps16
  go_wp2_with fail
  refine (none_any cb depth _ H1.out.cells.1 H.out.depth1.1).mono ?_
  rintro e w' ⟨rfl, rfl⟩
  go_wp2_with ((with_reducible refine wpStoreAt 2 ?_); refine wpList_store_row rfl 33 _ _ rfl w.heap.size Z rfl rfl 33 Z HR1.out (infoBlk _ hzs) rfl hzo ?_)
  have HRS := Lib.hid (setRow_heap _ _ _ Z _ _ HR1.out)
  have HBF := Lib.hid (below_setRow HB1.out (Nat.le_refl _) Z)
  refine bodyPost_ret (results_row_tmp rfl _ _ _ _ _ _ _ rfl HRS.out Try.underlying33 rfl (infoBlk _ hzs)) rfl ?_
  exact ⟨by rw [← HZE.out]; rfl, HBF.out⟩

/-- where a block stands -/
def findR (ds : List BlkD) (height : Nat) (x : List UInt8) : Nat × Bool := match ds.findIdx? (fun d => d.hash == x) with
  | some i => (atN height ds.length i, true)
  | none => (0, false)
theorem findR_some {ds : List BlkD} {height : Nat} {x : List UInt8} {k : Nat} (hk : k < ds.length) (h : ds[k].hash = x) (hn : ∀ i d, i < k → ds[i]? = some d → ¬ d.hash = x) : findR ds height x = (atN height ds.length k, true) := by
  have : ds.findIdx? (fun d => d.hash == x) = some k := by
    rw [List.findIdx?_eq_some_iff_getElem]
    refine ⟨hk, by simpa using h, fun j hj => ?_⟩
    have := hn j _ hj (List.getElem?_eq_getElem (by omega))
    simpa using this
  unfold findR; rw [this]
theorem findR_none {ds : List BlkD} {height : Nat} {x : List UInt8} (hn : ∀ i d, i < ds.length → ds[i]? = some d → ¬ d.hash = x) : findR ds height x = (0, false) := by
  have : ds.findIdx? (fun d => d.hash == x) = none := by
    rw [List.findIdx?_eq_none_iff]
    intro d hd
    obtain ⟨i, hi⟩ := List.mem_iff_getElem?.1 hd
    have := hn i d (List.getElem?_eq_some_iff.1 hi).1 hi
    simpa using this
  unfold findR; rw [this]

set_option maxRecDepth 100000 in
set_option maxHeartbeats 400000 in
theorem find_any {base cb depth height : Nat} {ds : List BlkD} {p : Option Addr} {c : Nat} {rows : List (List Value)} (w : World) (h : ChAt w base cb depth height ds p c rows) (x : List UInt8) (hx : x.length = 32) :
    Calls Try.prog 36 #[.pointer (some ⟨cb, 0, none⟩), .agg (idA x)] w fun e w' => e = .returned (.tuple #[.int .u32 ((findR ds height x).1 : Int), .bool (findR ds height x).2]) ∧ Below w.heap.size w w' := by
  obtain ⟨Z, hz, hZ⟩ := zBlk
  have HZZ := Lib.hid hZ
  have H := Lib.hid h
  have HX := Lib.hid hx
  have hb1 : Below w.heap.size w (w.alloc (.cells (idA x) 30)) := Below.allocs _ _
  have HB1 := Lib.hid hb1
  have H1 := Lib.hid (h.below hb1)
  have HR1 := Lib.hid (heap_alloc_last w (.cells (idA x) 30))
  have hc2 := H1.out.cells.2.2.1
  have hm := h.many
  obtain ⟨hd1, hd2⟩ := h.depth1
  clear h hb1 hZ hx
  go_enter Try.func36, Try.ntmps36
  go_wp2_with fail
  refine (none_any cb depth _ H1.out.cells.1 H.out.depth1.1).mono ?_
  rintro e w' ⟨rfl, rfl⟩
  go_wp2_with fail
  generalize w.alloc (.cells (idA x) 30) = w1 at *
  clear hc2
  go_loopw [15] (fun j wr => ∃ k : Nat, k ≤ ds.length ∧ j = .int .i64 k ∧ (∀ i d, i < k → ds[i]? = some d → ¬ d.hash = x) ∧ wr.heap[w.heap.size]? = some (.cells (idA x) 30 (0, 0)) ∧ Below w.heap.size w wr) (fun j _ => ds.length - (intOf j).toNat)
  case atStart => exact ⟨0, by omega, rfl, fun i d h => absurd h (Nat.not_lt_zero i), HR1.out, HB1.out⟩
  case round =>
    obtain ⟨k, hk, rfl, hnot, hrow, hbw⟩ := hrel
    have HNOT := Lib.hid hnot
    have HROW := Lib.hid hrow
    have HBW := Lib.hid hbw
    clear hnot hrow hbw
    by_cases hlt : k < ds.length
    · have hd : decide ((k : Int) < (ds.length : Int)) = true := decide_eq_true (by omega)
      have hrs := H.out.rs
      have hri : k < rows.length := by rw [H.out.count]; omega
      obtain ⟨b, o, rfl⟩ := hrs.sl.addr (by omega) (by omega)
      have hch := H.out.each k _ (ds[k]'hlt) (List.getElem?_eq_getElem hri) (List.getElem?_eq_getElem hlt)
      obtain ⟨q, cq, hrq, hbq⟩ := hch.blk
      have HRG0 := Lib.hid (range_below (hrs.row k hri) HBW.out)
      rw [hrq] at HRG0
      have HF1 : Hid ((ds[k]'hlt).hash = x → findR ds height x = (atN height ds.length k, true)) := fun h => findR_some hlt h HNOT.out
      have HGK : Hid (ds[k]? = some (ds[k]'hlt)) := List.getElem?_eq_getElem hlt
      generalize (ds[k]'hlt) = d at *
      obtain ⟨A, hA⟩ : ∃ A, A = blkA d.hash d.par q d.txs.length cq := ⟨_, rfl⟩
      rw [← hA] at HRG0 hbq
      clear hA hch hrq hrs
      have HBQ := Lib.hid hbq
      have HAS := Lib.hid hbq.size
      have HAO := Lib.hid hbq.one
      have HAL : Hid (A.toList.length = 65) := by show _ = _; rw [Array.length_toList]; exact hbq.size
      have HNW := Lib.hid (box_new wr Z 33)
      have HBR := Lib.hid (box_row wr Z A 33)
      have HBB := Lib.hid (box_below wr Z A 33)
      have HR3 := Lib.hid (Below.keepOld HBB.out HROW.out)
      have HB3 := Lib.hid (HBW.out.trans (HBB.out.mono HBW.out.size))
      have HPA := Lib.hid (hbq.parts HBR.out).1
      have HHS : Hid ((idA d.hash).toList.length = 32) := by show _ = _; rw [Array.length_toList, idA_size, hbq.hlen]
      have HHL := Lib.hid hbq.hlen
      clear hbq
      have hq : ∀ w, (Op.equalIn 10000 30 (.agg (idA d.hash)) (.agg (idA x))).run Try.prog w = .ok (d.hash == x) w := fun w => eqI w d.hash x HHL.out HX.out
      by_cases hyx : d.hash = x
      · have hb : (d.hash == x) = true := by rw [beq_iff_eq]; exact hyx
        have HRES := Lib.hid (HF1.out hyx)
        clear hyx
        go_wp2_with (first
          | ((with_reducible refine wpAt 19 ?_); refine wpList_load_mid rfl 33 _ rfl b (o + k * 65) rfl A.toList _ HRG0.out Try.underlying33 rfl (infoBlk _ HAL.out) ?_)
          | ((with_reducible refine wpStoreAt 7 ?_); refine wpList_store_row rfl 33 _ _ rfl wr.heap.size A rfl rfl 33 Z HNW.out (infoBlk _ HAS.out) (HZZ.out.trans HAS.out.symm) HAO.out ?_)
          | ((with_reducible refine wpAt 21 ?_); refine wpList_load_mid rfl 30 _ rfl wr.heap.size 0 rfl (idA d.hash).toList _ HPA.out Try.underlying30 rfl (infoI _ HHS.out) ?_)
          | ((with_reducible refine wpAt 22 ?_); refine wpList_load_row rfl 30 _ rfl w.heap.size rfl 30 (idA x) (0, 0) _ HR3.out Try.underlying30 rfl (infoI _ (by rw [idA_size, HX.out])) ?_))
        refine (at_any _ (H.out.below HB3.out) k hlt).mono ?_
        rintro e w5 ⟨rfl, hb5⟩
        have HB5 := Lib.hid (HB3.out.trans (hb5.mono HB3.out.size))
        clear hb5
        go_wp2_with fail
        go_ret2
        exact ⟨by rw [HRES.out]; rfl, HB5.out⟩
      · have hb : (d.hash == x) = false := by rw [beq_eq_false_iff_ne]; exact hyx
        have HNE := Lib.hid hyx
        clear hyx
        go_wp2_with (first
          | ((with_reducible refine wpAt 19 ?_); refine wpList_load_mid rfl 33 _ rfl b (o + k * 65) rfl A.toList _ HRG0.out Try.underlying33 rfl (infoBlk _ HAL.out) ?_)
          | ((with_reducible refine wpStoreAt 7 ?_); refine wpList_store_row rfl 33 _ _ rfl wr.heap.size A rfl rfl 33 Z HNW.out (infoBlk _ HAS.out) (HZZ.out.trans HAS.out.symm) HAO.out ?_)
          | ((with_reducible refine wpAt 21 ?_); refine wpList_load_mid rfl 30 _ rfl wr.heap.size 0 rfl (idA d.hash).toList _ HPA.out Try.underlying30 rfl (infoI _ HHS.out) ?_)
          | ((with_reducible refine wpAt 22 ?_); refine wpList_load_row rfl 30 _ rfl w.heap.size rfl 30 (idA x) (0, 0) _ HR3.out Try.underlying30 rfl (infoI _ (by rw [idA_size, HX.out])) ?_))
        go_roundw
        case rel =>
          refine ⟨k + 1, by omega, by go_num, fun i d' hi hd' => ?_, HR3.out, HB3.out⟩
          by_cases hik : i = k
          · rw [hik, HGK.out] at hd'
            cases hd'
            exact HNE.out
          · exact HNOT.out i d' (by omega) hd'
        case measure => simp [intOf]; omega
    · have hd : decide ((k : Int) < (ds.length : Int)) = false := decide_eq_false (by omega)
      have HRES : Hid (findR ds height x = (0, false)) := findR_none fun i d hi hd' => HNOT.out i d (by omega) hd'
      go_wp2_with fail
      go_ret2
      exact ⟨by rw [HRES.out]; rfl, HBW.out⟩
end Go.Proofs.Ytepemfgiigceoaa.Chn
