/- THE WALKS OF THE DOCUMENT'S CHAIN: windows the same, a block's place, may a block be connected. Conditions: none. -/
import Derived.Test.YtepemfgiigceoaaChNear
import Derived.Test.YtepemfgiigceoaaBlk5
import Derived.Test.YtepemfgiigceoaaBlk11
namespace Go.Proofs.Ytepemfgiigceoaa.Chn
open Go.RowKit Go.Mir Go.Mir.Parts Go.Proofs.Ytepemfgiigceoaa.Blk

theorem sameB_id (d : BlkD) : sameB d d = true := by unfold sameB; simp
set_option maxRecDepth 100000 in
set_option maxHeartbeats 400000 in
/-- windows that are the same -/
theorem rWin_same (ds : List BlkD) (p p2 : Option Addr) (n n2 c c2 : Nat) (rows rows2 : List (List Value)) (w : World) (h : Bks w p n c ds rows) (h2 : Bks w p2 n2 c2 ds rows2) :
    Calls Try.prog 18 #[.slice p n c, .slice p2 n2 c2] w fun e w' => e = .returned (.bool true) ∧ Below w.heap.size w w' := by
  obtain rfl := h.count
  obtain rfl := h2.count
  have H := Lib.hid h
  have H2 := Lib.hid h2
  have hle := h.rs.sl.le
  have hmax := h.rs.sl.max
  have hle2 := h2.rs.sl.le
  have hmax2 := h2.rs.sl.max
  clear h h2
  go_enter Try.func18, Try.ntmps18
  go_wp2_with fail
  go_loopw [5] (fun j wr => ∃ k : Nat, k ≤ ds.length ∧ j = .int .i64 k ∧ Below w.heap.size w wr) (fun j _ => ds.length - (intOf j).toNat)
  case atStart => exact ⟨0, by omega, rfl, Below.refl _ _⟩
  case round =>
    obtain ⟨k, hk, rfl, hb0⟩ := hrel
    have HB0 := Lib.hid hb0
    clear hb0
    by_cases hlt : k < ds.length
    · have hd : decide ((k : Int) < (ds.length : Int)) = true := decide_eq_true (by omega)
      obtain ⟨b, o, rfl⟩ := H.out.rs.sl.addr (by omega) (by omega)
      obtain ⟨b2, o2, rfl⟩ := H2.out.rs.sl.addr (by omega) (by omega)
      obtain ⟨q, cq, hbq, hrg⟩ := H.out.at k hlt
      obtain ⟨q2, cq2, hbq2, hrg2⟩ := H2.out.at k hlt
      generalize ds[k] = d at *
      obtain ⟨A, hA⟩ : ∃ A, A = blkA d.hash d.par q d.txs.length cq := ⟨_, rfl⟩
      obtain ⟨A2, hA2⟩ : ∃ A, A = blkA d.hash d.par q2 d.txs.length cq2 := ⟨_, rfl⟩
      rw [← hA] at hbq hrg
      rw [← hA2] at hbq2 hrg2
      have HBQ := Lib.hid (hbq.below HB0.out)
      have HBQ2 := Lib.hid (hbq2.below HB0.out)
      have HRG : Hid (∀ y : Grown wr, y.v.rangeAt b (o + k * 65) A.toList) := fun y => range_grown (range_below hrg HB0.out) y
      have HRG2 : Hid (∀ y : Grown wr, y.v.rangeAt b2 (o2 + k * 65) A2.toList) := fun y => range_grown (range_below hrg2 HB0.out) y
      have HS := Lib.hid hbq.size
      have HS2 := Lib.hid hbq2.size
      clear hA hA2 hbq hbq2 hrg hrg2
      go_wp2_with fail
      refine wp_region_grow (by kernel_rfl) (by kernel_rfl) ?_
      repeat (first
        | refine wpQuiet_load rfl 33 _ rfl b (o + k * 65) rfl A _ HRG.out Try.underlying33 rfl (infoBlk _ HS.out) ?_
        | refine wpQuiet_load rfl 33 _ rfl b2 (o2 + k * 65) rfl A2 _ HRG2.out Try.underlying33 rfl (infoBlk _ HS2.out) ?_
        | quiet_step ((first | (go_at_call 29; exact Calls.grow_of (rSame_any A A2 d d _ _ _ _ _ _ _ (HBQ.out.below (Grown.b _)) (HBQ2.out.below (Grown.b _)))))))
      refine wpQuiet_nil ?_
      intro w3 hb3
      rw [sameB_id]
      have HB3 := Lib.hid (HB0.out.trans (hb3.mono HB0.out.size))
      clear hb3
      go_wp2_with fail
      go_roundw
      case rel => exact ⟨k + 1, by omega, by go_num, HB3.out⟩
      case measure => simp [intOf]; omega
    · have hd : decide ((k : Int) < (ds.length : Int)) = false := decide_eq_false (by omega)
      go_wp2_with fail
      go_ret
      exact ⟨rfl, HB0.out⟩
/-- a block's place, or -1 -/
def hasR (ds : List BlkD) (x : List UInt8) : Int := match ds.findIdx? (fun d => d.hash == x) with
  | some i => (i : Int)
  | none => -1
theorem hasR_some {ds : List BlkD} {x : List UInt8} {k : Nat} (hk : k < ds.length) (h : ds[k].hash = x) (hn : ∀ i d, i < k → ds[i]? = some d → ¬ d.hash = x) : hasR ds x = (k : Int) := by
  have : ds.findIdx? (fun d => d.hash == x) = some k := by
    rw [List.findIdx?_eq_some_iff_getElem]
    refine ⟨hk, by simpa using h, fun j hj => ?_⟩
    have := hn j _ hj (List.getElem?_eq_getElem (by omega))
    simpa using this
  unfold hasR; rw [this]
theorem hasR_none {ds : List BlkD} {x : List UInt8} (hn : ∀ i d, i < ds.length → ds[i]? = some d → ¬ d.hash = x) : hasR ds x = -1 := by
  have : ds.findIdx? (fun d => d.hash == x) = none := by
    rw [List.findIdx?_eq_none_iff]
    intro d hd
    obtain ⟨i, hi⟩ := List.mem_iff_getElem?.1 hd
    have := hn i d (List.getElem?_eq_some_iff.1 hi).1 hi
    simpa using this
  unfold hasR; rw [this]
theorem hasR_ge (ds : List BlkD) (height : Nat) (x : List UInt8) : decide ((0 : Int) ≤ hasR ds x) = (findR ds height x).2 := by
  unfold hasR findR
  cases ds.findIdx? (fun d => d.hash == x) with
  | none => rfl
  | some i => show decide ((0 : Int) ≤ (i : Int)) = true; rw [decide_eq_true_iff]; omega

set_option maxRecDepth 100000 in
set_option maxHeartbeats 400000 in
theorem rhas_any (ds : List BlkD) (p : Option Addr) (n c : Nat) (rows : List (List Value)) (x : List UInt8) (w : World) (h : Bks w p n c ds rows) (hx : x.length = 32) :
    Calls Try.prog 43 #[.slice p n c, .agg (idA x)] w fun e w' => e = .returned (.int .i64 (hasR ds x)) ∧ Below w.heap.size w w' := by
  obtain rfl := h.count
  have H := Lib.hid h
  have HX := Lib.hid hx
  have hle := h.rs.sl.le
  have hmax := h.rs.sl.max
  have HB1 := Lib.hid (Below.allocs w (.cells (idA x) 30))
  have HR1 := Lib.hid (heap_alloc_last w (.cells (idA x) 30))
  clear h hx
  go_enter Try.func43, Try.ntmps43
  go_wp2_with fail
  generalize w.alloc (.cells (idA x) 30) = w1 at *
  go_loopw [5] (fun j wr => ∃ k : Nat, k ≤ ds.length ∧ j = .int .i64 k ∧ (∀ i d, i < k → ds[i]? = some d → ¬ d.hash = x) ∧ wr.heap[w.heap.size]? = some (.cells (idA x) 30 (0, 0)) ∧ Below w.heap.size w wr) (fun j _ => ds.length - (intOf j).toNat)
  case atStart => exact ⟨0, by omega, rfl, fun i d h => absurd h (Nat.not_lt_zero i), HR1.out, HB1.out⟩
  case round =>
    obtain ⟨k, hk, rfl, hnot, hrow, hb0⟩ := hrel
    have HNOT := Lib.hid hnot
    have HROW := Lib.hid hrow
    have HB0 := Lib.hid hb0
    clear hb0 hnot hrow
    by_cases hlt : k < ds.length
    · have hd : decide ((k : Int) < (ds.length : Int)) = true := decide_eq_true (by omega)
      obtain ⟨b, o, rfl⟩ := H.out.rs.sl.addr (by omega) (by omega)
      obtain ⟨q, cq, hbq, hrg⟩ := H.out.at k hlt
      have HF1 : Hid (ds[k].hash = x → hasR ds x = (k : Int)) := fun h => hasR_some hlt h HNOT.out
      have HGK : Hid (ds[k]? = some ds[k]) := List.getElem?_eq_getElem hlt
      generalize ds[k] = d at *
      have HRG : Hid (∀ y : Grown wr, y.v.rangeAt b (o + k * 65) (idA d.hash).toList) := fun y => by
        have h1 := range_grown (range_below hrg HB0.out) y
        intro j v hv
        refine h1 j v ?_
        rw [blkA_toList, List.append_assoc, List.getElem?_append_left (by have := (List.getElem?_eq_some_iff.1 hv).1; rwa [idA_toList] at this)]
        rwa [idA_toList] at hv
      have HRX : Hid (∀ y : Grown wr, y.v.rangeAt w.heap.size 0 (idA x).toList) := fun y => range_grown (row_rangeC HROW.out) y
      have HHL := Lib.hid hbq.hlen
      have hq : ∀ w, (Op.equalIn 10000 30 (.agg (idA d.hash)) (.agg (idA x))).run Try.prog w = .ok (d.hash == x) w := fun w => eqI w d.hash x HHL.out HX.out
      clear hbq hrg
      by_cases hyx : d.hash = x
      · have hb : (d.hash == x) = true := by rw [beq_iff_eq]; exact hyx
        have HRES := Lib.hid (HF1.out hyx)
        clear hyx
        go_wp2_with fail
        refine wp_region_grow (by kernel_rfl) (by kernel_rfl) ?_
        repeat (first
          | refine wpQuiet_load rfl 30 _ rfl b (o + k * 65) rfl (idA d.hash) _ HRG.out Try.underlying30 rfl (infoI _ (by rw [idA_size, HHL.out])) ?_
          | refine wpQuiet_load rfl 30 _ rfl w.heap.size 0 rfl (idA x) _ HRX.out Try.underlying30 rfl (infoI _ (by rw [idA_size, HX.out])) ?_
          | quiet_step (fail))
        refine wpQuiet_nil ?_
        intro w3 hb3
        have HB3 := Lib.hid (HB0.out.trans (hb3.mono HB0.out.size))
        clear hb3 hq
        go_wp2_with fail
        go_ret
        exact ⟨by rw [HRES.out]; rfl, HB3.out⟩
      · have hb : (d.hash == x) = false := by rw [beq_eq_false_iff_ne]; exact hyx
        have HNE := Lib.hid hyx
        clear hyx
        go_wp2_with fail
        refine wp_region_grow (by kernel_rfl) (by kernel_rfl) ?_
        repeat (first
          | refine wpQuiet_load rfl 30 _ rfl b (o + k * 65) rfl (idA d.hash) _ HRG.out Try.underlying30 rfl (infoI _ (by rw [idA_size, HHL.out])) ?_
          | refine wpQuiet_load rfl 30 _ rfl w.heap.size 0 rfl (idA x) _ HRX.out Try.underlying30 rfl (infoI _ (by rw [idA_size, HX.out])) ?_
          | quiet_step (fail))
        refine wpQuiet_nil ?_
        intro w3 hb3
        have HB3 := Lib.hid (HB0.out.trans (hb3.mono HB0.out.size))
        have HR3 := Lib.hid (Below.keepOld hb3 HROW.out)
        clear hb3 hq
        go_wp2_with fail
        go_roundw
        case rel =>
          refine ⟨k + 1, by omega, by go_num, fun i d' hi hd' => ?_, HR3.out, HB3.out⟩
          by_cases hik : i = k
          · rw [hik, HGK.out] at hd'
            cases hd'
            exact HNE.out
          · exact HNOT.out i d' (by omega) hd'
        case measure => simp [intOf]; omega
    · have hd : decide ((k : Int) < (ds.length : Int)) = false := decide_eq_false (by omega)
      have HRES : Hid (hasR ds x = -1) := hasR_none fun i d hi hd' => HNOT.out i d (by omega) hd'
      go_wp2_with fail
      go_ret
      exact ⟨by rw [HRES.out]; rfl, HB0.out⟩
end Go.Proofs.Ytepemfgiigceoaa.Chn
