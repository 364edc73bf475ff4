/- THE WALKS OF A CHAIN, on: a chain loaded, and made. Conditions: none. -/
import Derived.Test.YtepemfgiigceoaaChain7
namespace Go.Proofs.Ytepemfgiigceoaa.Chn
open Go.RowKit Go.Mir Go.Mir.Parts Go.Proofs.Ytepemfgiigceoaa.Blk

/-- blocks, as a slice of them reads -/
structure Bks (w : World) (p : Option Addr) (n c : Nat) (ds : List BlkD) (rows : List (List Value)) : Prop where
  rs : Rs w p n c 65 rows
  count : ds.length = n
  each : ∀ (i : Nat) r d, rows[i]? = some r → ds[i]? = some d → ∃ q cc, r = (blkA d.hash d.par q d.txs.length cc).toList ∧ BlkAt w (blkA d.hash d.par q d.txs.length cc) d q d.txs.length cc
theorem Bks.below {w w' : World} {p : Option Addr} {n c : Nat} {ds : List BlkD} {rows : List (List Value)} (h : Bks w p n c ds rows) (hb : Below w.heap.size w w') : Bks w' p n c ds rows :=
  ⟨h.rs.below hb, h.count, fun i r d h1 h2 => by
    obtain ⟨q, cc, e, hb'⟩ := h.each i r d h1 h2
    exact ⟨q, cc, e, hb'.below hb⟩⟩
theorem Bks.nil (w : World) : Bks w none 0 0 [] [] := ⟨⟨Sl.nil _ _, fun _ h => by simp at h, rfl⟩, rfl, fun i r d h => by simp at h⟩
theorem Bks.at {w : World} {b o n c : Nat} {ds : List BlkD} {rows : List (List Value)} (h : Bks w (some ⟨b, o, none⟩) n c ds rows) (k : Nat) (hk : k < ds.length) : ∃ q cc, BlkAt w (blkA ds[k].hash ds[k].par q ds[k].txs.length cc) ds[k] q ds[k].txs.length cc ∧ w.rangeAt b (o + k * 65) (blkA ds[k].hash ds[k].par q ds[k].txs.length cc).toList := by
  have hkr : k < rows.length := by rw [h.rs.count, ← h.count]; exact hk
  obtain ⟨q, cc, e, hb⟩ := h.each k _ ds[k] (List.getElem?_eq_getElem hkr) (List.getElem?_eq_getElem hk)
  refine ⟨q, cc, hb, ?_⟩
  rw [← e]
  exact h.rs.row k hkr

set_option maxRecDepth 100000 in
theorem fits_yes (d : Nat) (w : World) (h : 1 ≤ d ∧ d ≤ 16) : Calls Try.prog 47 #[.int .i64 (d : Int)] w fun e w' => e = .returned (.bool true) ∧ w = w' := by
  obtain ⟨h1, h2⟩ := h
  have e1 : decide ((1 : Int) ≤ (d : Int)) = true := decide_eq_true (by omega)
  have e2 : decide ((d : Int) ≤ 16) = true := decide_eq_true (by omega)
  go_enter Try.func47, Try.ntmps47
  go_wp2_with fail
  go_ret
  exact ⟨rfl, rfl⟩
set_option maxRecDepth 100000 in
theorem fits_no (d : Int) (w : World) (h : d < 1 ∨ 16 < d) : Calls Try.prog 47 #[.int .i64 d] w fun e w' => e = .returned (.bool false) ∧ w = w' := by
  by_cases h1 : (1 : Int) ≤ d
  · have e1 : decide ((1 : Int) ≤ d) = true := decide_eq_true (by omega)
    have e2 : decide (d ≤ 16) = false := decide_eq_false (by omega)
    have h2 : 16 < d := by omega
    clear h
    go_enter Try.func47, Try.ntmps47
    go_wp2_with fail
    go_ret
    exact ⟨rfl, rfl⟩
  · have e1 : decide ((1 : Int) ≤ d) = false := decide_eq_false (by omega)
    have h2 : d < 1 := by omega
    clear h h1
    go_enter Try.func47, Try.ntmps47
    go_wp2_with fail
    go_ret
    exact ⟨rfl, rfl⟩
/-- which blocks may be connected, one behind the other -/
def goesB (ds : List BlkD) : Nat → Bool
  | 0 => true
  | k + 1 => goesB ds k && (match ds[k]? with | some d => decide (mayE (ds.take k) 0 d = 0) | none => true)
theorem goesB_step {ds : List BlkD} {k : Nat} (hk : k < ds.length) (h : goesB ds k = true) (hm : mayE (ds.take k) 0 ds[k] = 0) : goesB ds (k + 1) = true := by
  unfold goesB
  rw [h, List.getElem?_eq_getElem hk]
  simpa using hm
theorem goesB_mono {ds : List BlkD} : ∀ (n k : Nat), goesB ds k = false → goesB ds (k + n) = false
  | 0, _, h => h
  | n + 1, k, h => by
    rw [← Nat.add_assoc]
    unfold goesB
    rw [goesB_mono n k h]
    rfl
theorem goesB_stop {ds : List BlkD} {k : Nat} (hk : k < ds.length) (hm : ¬ mayE (ds.take k) 0 ds[k] = 0) : goesB ds ds.length = false := by
  have h1 : goesB ds (k + 1) = false := by
    unfold goesB
    rw [List.getElem?_eq_getElem hk]
    simp [hm]
  have := goesB_mono (ds.length - (k + 1)) (k + 1) h1
  rwa [show k + 1 + (ds.length - (k + 1)) = ds.length by omega] at this
/-- what is left of a chain loaded -/
def LoadP (depth height : Nat) (ds : List BlkD) (w : World) (e : Ending) (w' : World) : Prop :=
  (goesB ds ds.length = true ∧ ∃ cb p c rows, e = .returned (.tuple #[.pointer (some ⟨cb, 0, none⟩), .int .i64 0]) ∧ w.heap.size ≤ cb ∧ ChAt w' w.heap.size cb depth height ds p c rows ∧ Below w.heap.size w w' ∧ (ds = [] → p = none)) ∨
  (goesB ds ds.length = false ∧ e = .returned (.tuple #[.pointer none, .int .i64 1]) ∧ Below w.heap.size w w')
/-- what stands at a round's head -/
def LoadR (depth : Nat) (ds : List BlkD) (p0 : Option Addr) (n0 c0 : Nat) (rows0 : List (List Value)) (w : World) (k : Nat) (wr : World) : Prop :=
  Below w.heap.size w wr ∧ goesB ds k = true ∧ ∃ p c rows, ChAt wr w.heap.size w.heap.size depth 0 (ds.take k) p c rows ∧ (k = 0 → p = none)

set_option maxRecDepth 100000 in
set_option maxHeartbeats 1600000 in
theorem load_any (depth height : Nat) (ds : List BlkD) (p0 : Option Addr) (c0 : Nat) (rows0 : List (List Value)) (w : World) (hW : Bks w p0 ds.length c0 ds rows0) (hf : ∀ d ∈ ds, d.txs.length ≤ 1099511627776) (hd : 1 ≤ depth ∧ depth ≤ 16) (hl : ds.length ≤ depth + 1) (hh : ds.length ≤ height) (hh2 : height ≤ 4294967295) :
    Calls Try.prog 30 #[.int .i64 (depth : Int), .int .u32 (height : Int), .slice p0 ds.length c0] w (LoadP depth height ds w) := by
  obtain ⟨Z, hz, hZ⟩ := zBlk
  have HZZ := Lib.hid hZ
  have HW := Lib.hid hW
  have HF := Lib.hid hf
  have HD := Lib.hid hd
  obtain ⟨hd1, hd2⟩ := hd
  have hw1 : IntKind.i64.wrap ((depth : Int) + 1) = (depth : Int) + 1 := IntWalk.i64_in _ (by omega)
  have e1 : decide (((depth : Int) + 1) < (ds.length : Int)) = false := decide_eq_false (by omega)
  have e2 : decide ((height : Int) < (ds.length : Int)) = false := decide_eq_false (by omega)
  have e3 : decide (height < ds.length) = false := decide_eq_false (by omega)
  clear hW hZ hf
  go_enter Try.func30, Try.ntmps30
  go_wp2_with fail
  refine (fits_yes depth w HD.out).mono ?_
  rintro e w' ⟨rfl, rfl⟩
  go_wp2_with fail
  have hrow0 := heap_alloc_last w (.cells (chA depth 0 none 0 0) 70)
  have HST : Hid (LoadR depth ds p0 ds.length c0 rows0 w 0 (w.alloc (.cells (chA depth 0 none 0 0) 70))) :=
    ⟨Below.allocs _ _, rfl, none, 0, [], ⟨hrow0, Nat.le_refl _, keeps_nil _ _ _ _, rfl, fun i r d h => by simp at h, HD.out, ⟨by simp, by omega⟩, fun d h => by simp at h⟩, fun _ => rfl⟩
  clear hrow0
  rw [show #[Value.int IntKind.i64 (depth : Int), Value.int IntKind.u32 0, Value.slice none 0 0] = chA depth 0 none 0 0 from rfl]
  go_loopw [34] (fun j wr => ∃ k : Nat, k ≤ ds.length ∧ j = .int .i64 k ∧ LoadR depth ds p0 ds.length c0 rows0 w k wr) (fun j _ => ds.length - (intOf j).toNat)
  case atStart => exact ⟨0, by omega, rfl, HST.out⟩
  case round =>
    obtain ⟨k, hk, rfl, hb0, hgo, p, c, rows, hch, hp0⟩ := hrel
    have HB0 := Lib.hid hb0
    have HGO := Lib.hid hgo
    have HCH := Lib.hid hch
    have HP0 := Lib.hid hp0
    clear hb0 hgo hch hp0
    by_cases hlt : k < ds.length
    · have hd : decide ((k : Int) < (ds.length : Int)) = true := decide_eq_true (by omega)
      obtain ⟨b, o, rfl⟩ := HW.out.rs.sl.addr (by omega) (by omega)
      obtain ⟨q, cq, hbq, hrg⟩ := HW.out.at k hlt
      have HBQ := Lib.hid (hbq.below HB0.out)
      have HRG0 := Lib.hid (range_below hrg HB0.out)
      have HTK : Hid (ds.take (k + 1) = ds.take k ++ [ds[k]]) := by show _ = _; rw [List.take_succ_eq_append_getElem hlt]
      have HGS := Lib.hid (fun hm => goesB_step hlt HGO.out hm)
      have HGX := Lib.hid (fun hm => goesB_stop (ds := ds) hlt hm)
      have HFK := Lib.hid (HF.out _ (List.getElem_mem hlt))
      clear hbq hrg
      generalize ds[k] = d at *
      obtain ⟨A, hA⟩ : ∃ A, A = blkA d.hash d.par q d.txs.length cq := ⟨_, rfl⟩
      rw [← hA] at HBQ HRG0
      clear hA
      have HAS := Lib.hid HBQ.out.size
      have HAO := Lib.hid HBQ.out.one
      have HAL : Hid (A.toList.length = 65) := by show _ = _; rw [Array.length_toList]; exact HBQ.out.size
      have HNW := Lib.hid (box_new wr Z 33)
      have HBR := Lib.hid (box_row wr Z A 33)
      have HBB := Lib.hid (box_below wr Z A 33)
      have HB3 := Lib.hid (HB0.out.trans (HBB.out.mono HB0.out.size))
      have HCH3 := Lib.hid (HCH.out.below HBB.out)
      have HBQ3 := Lib.hid (HBQ.out.below HBB.out)
      go_wp2_with (first
        | ((with_reducible refine wpAt 37 ?_); refine wpList_load_mid rfl 33 _ rfl b (o + k * 65) rfl A.toList _ HRG0.out Try.underlying33 rfl (infoBlk _ HAL.out) ?_)
        | ((with_reducible refine wpStoreAt 10 ?_); refine wpList_store_row rfl 33 _ _ rfl wr.heap.size A rfl rfl 33 Z HNW.out (infoBlk _ HAS.out) (HZZ.out.trans HAS.out.symm) HAO.out ?_)
        | ((with_reducible refine wpAt 39 ?_); refine wpList_load_row_g rfl 33 _ rfl wr.heap.size rfl 33 A (0, 0) _ HBR.out Try.underlying33 rfl (infoBlk _ HAS.out) ?_))
      generalize (wr.alloc (.cells Z 33)).setRow wr.heap.size A = w3 at *
      refine (may_any w3 HCH3.out A d q _ cq HBQ3.out).mono ?_
      rintro e w4 ⟨rfl, hb4⟩
      have HB4 := Lib.hid (HB3.out.trans (hb4.mono HB3.out.size))
      have HCH4 := Lib.hid (HCH3.out.below hb4)
      have HBQ4 := Lib.hid (HBQ3.out.below hb4)
      have HBR4 := Lib.hid (Below.keepOld hb4 HBR.out)
      have HWS : Hid (wr.heap.size < w3.heap.size) := (Array.getElem?_eq_some_iff.1 HBR.out).1
      have HCS : Hid (w.heap.size < wr.heap.size) := (Array.getElem?_eq_some_iff.1 HCH.out.row).1
      have HS34 := Lib.hid hb4.size
      clear hb4
      by_cases hm : mayE (ds.take k) 0 d = 0
      · have HG1 := Lib.hid (HGS.out hm)
        rw [hm]
        clear hm
        generalize hdk : ds.take k = dk at *
        have HDK := Lib.hid hdk
        clear hdk
        have HNE : Hid (∀ i, (Value.slice p dk.length c).ownBlock = some i → ¬ i = w.heap.size) := keeps_ne_cells HCH4.out.keeps HCH4.out.row (by decide)
        have HNM : Hid (∀ i, (Value.slice p dk.length c).ownBlock = some i → ¬ i = wr.heap.size) := fun i hi e => by have := (keeps_lt HCH.out.keeps i hi).2; omega
        have hk2 : Hid (∀ w', Turns (fun i => (Value.slice p dk.length c).ownBlock = some i) w4 w' → w'.cell? ⟨w.heap.size, 2, none⟩ = some (.slice p dk.length c)) := fun w' ht => ht.cell HCH4.out.cells.2.2.1 (fun hi => HNE.out _ hi rfl)
        have hkM : Hid (∀ w', Turns (fun i => (Value.slice p dk.length c).ownBlock = some i) w4 w' → w'.rangeAt wr.heap.size 0 A.toList) := fun w' ht => row_rangeC (ht.keep HBR4.out (fun hi => HNM.out _ hi rfl))
        go_wp2_with fail
        refine wp_region_eager_t (Turns (fun i => (Value.slice p dk.length c).ownBlock = some i) w4) [0, 1, 2, 3, 4, 5, 9, 10] [(0, true), (1, true), (2, true), (3, true), (4, true), (5, true), (6, false), (7, false), (8, false), (9, true), (10, true)] [11] (by kernel_rfl) (by kernel_rfl) ?_ (eagerTOpen rfl ?_)
        · exact (Turns.refl _ _).drew
        have hy0 : Turns (fun i => (Value.slice p dk.length c).ownBlock = some i) w4 w4.drew := (Turns.refl _ _).drew
        repeat (first
          | ((with_reducible refine eagerTLoadAt 10 ?_); refine wpEagerT_load (by rfl) 33 _ rfl wr.heap.size 0 rfl A _ (fun w' hb => hkM.out w' hb) Try.underlying33 rfl (infoBlk _ HAS.out) ?_; (try simp only [Act.put, List.setIfInBounds_toArray, List.set_cons_zero, List.set_cons_succ]); (try refine eagerTOpen rfl ?_))
          | (first | (apply wpEagerT_take; (· rfl); (· (intro w' hb'; go_simp; try with_reducible rfl)); (try simp only [Act.put, List.setIfInBounds_toArray, List.set_cons_zero, List.set_cons_succ]); (try refine eagerTOpen rfl ?_)) | (refine wpEagerT_skip (by rfl) ?_; (try simp only [Act.put, List.setIfInBounds_toArray, List.set_cons_zero, List.set_cons_succ]); (try refine eagerTOpen rfl ?_)))
          | (apply wpEagerT_take; (· rfl); (· (intro w' hb'; have hk' := (hk2.out) w' hb'; go_split_ands; go_simp; try with_reducible rfl)); (try simp only [Act.put, List.setIfInBounds_toArray, List.set_cons_zero, List.set_cons_succ]); (try refine eagerTOpen rfl ?_)))
        (refine wpEagerT_op (by rfl) (fun K hK => ?_); go_simp; (refine (copy_any A d _ _ _ _ (HBQ4.out.below (below_drew1 _ _)) HFK.out).mono ?_; rintro e y ⟨p2, c2, rfl, ho, hb⟩; have HO := Lib.hid ho; have HBY := Lib.hid hb; have hy1 : Turns (fun i => (Value.slice p dk.length c).ownBlock = some i) w4 y := hy0.trans (Turns.of_below (S := fun _ => False) hb) (fun _ _ h => h.elim); clear ho hb); refine Shut.out hK _ _ (by assumption) ?_; clear hK K; (try simp only [Act.put, List.setIfInBounds_toArray, List.set_cons_zero, List.set_cons_succ]); (try refine eagerTOpen rfl ?_))
        have HN2 : Hid (BlkAt y (blkA d.hash d.par p2 d.txs.length c2) d p2 d.txs.length c2) := own_blk HBQ.out.hlen HBQ.out.plen HBQ.out.ids.each rfl HO.out
        refine wpEagerT_op (by rfl) (fun K hK => oper_of_list rfl ?_)
        refine wpList_buildOne rfl 37 33 _ rfl (blkA d.hash d.par p2 d.txs.length c2) rfl 65 Try.underlying37 (by kernel_rfl) (by omega) (by omega) HN2.out.size ?_
        have HRN := Lib.hid (heap_alloc_last y (.cells (blkA d.hash d.par p2 d.txs.length c2) 33))
        have hy2 : Turns (fun i => (Value.slice p dk.length c).ownBlock = some i) w4 (y.alloc (.cells (blkA d.hash d.par p2 d.txs.length c2) 33)) := hy1.alloc _
        refine only_end (Shut.out hK _ _ hy2 ?_)
        clear hK K
        (try simp only [Act.put, List.setIfInBounds_toArray, List.set_cons_zero, List.set_cons_succ]); (try refine eagerTOpen rfl ?_)
        refine wpEagerT_op (by rfl) (fun K hK => oper_of_list rfl ?_)
        have hy2s : w4.heap.size ≤ (y.alloc (.cells (blkA d.hash d.par p2 d.txs.length c2) 33)).heap.size := hy2.size
        have hby : Below w4.heap.size w4 y := (below_drew1 _ _).trans HBY.out
        have HBYA : Hid (Below w4.heap.size w4 (y.alloc (.cells (blkA d.hash d.par p2 d.txs.length c2) 33))) := hby.alloc hby.size _
        have hkeep := keeps_below HCH4.out.keeps HBYA.out
        have HONE : Hid (∀ u ∈ (blkA d.hash d.par p2 d.txs.length c2).toList, u.oneCell' = true) := fun u hu => List.all_eq_true.1 (by rw [Array.all_toList]; exact HN2.out.one) u hu
        have HBS : Hid (w.heap.size ≤ (y.alloc (.cells (blkA d.hash d.par p2 d.txs.length c2) 33)).heap.size) := Nat.le_trans HB4.out.size HBYA.out.size
        have hmany := HCH4.out.many
        refine wpList_append_keeps rfl _ _ 37 rfl (base := w.heap.size) Try.underlying37 infoBlocks zblk_size (by omega) rfl hkeep rfl (row_sl HRN.out 65 HN2.out.size) HONE.out (by omega) (by omega) HBS.out ?_
        intro p' c' w5 hkp hgr hnx hpn
        have hy5 : Turns (fun i => (Value.slice p dk.length c).ownBlock = some i) w4 w5 := hy2.trans (Turns.grown hgr (S := fun i => (Value.slice p dk.length c).ownBlock = some i) (fun k hk => hk)) (fun _ _ h => h)
        refine only_end (Shut.out hK _ _ hy5 ?_)
        clear hK K
        (try simp only [Act.put, List.setIfInBounds_toArray, List.set_cons_zero, List.set_cons_succ]); (try refine eagerTOpen rfl ?_)
        repeat (first | (apply wpEagerT_take; (· rfl); (· (intro w' hb'; go_simp; try with_reducible rfl)); (try simp only [Act.put, List.setIfInBounds_toArray, List.set_cons_zero, List.set_cons_succ]); (try refine eagerTOpen rfl ?_)) | (refine wpEagerT_skip (by rfl) ?_; (try simp only [Act.put, List.setIfInBounds_toArray, List.set_cons_zero, List.set_cons_succ]); (try refine eagerTOpen rfl ?_)))
        refine eagerTEnd (tail1 rfl ?_)
        have hwl : ∀ k, (Value.slice p dk.length c).ownBlock = some k → k < w4.heap.size := fun k hk => (keeps_lt HCH4.out.keeps k hk).2
        have ho5 : w5.ownsRow w4.heap.size 30 32 (.slice p2 d.txs.length c2) d.txs.length (d.txs.flatMap bytesV) :=
          own_touch (own_below_alloc HO.out (.cells (blkA d.hash d.par p2 d.txs.length c2) 33)) (Turns.grown hgr (S := fun i => (Value.slice p dk.length c).ownBlock = some i) (fun k hk => hk)) (fun k hk hs => by have h1 := (HO.out.lt k hk).1; have h2 := hwl k hs; have h3 : w4.drew.heap.size = w4.heap.size := rfl; omega)
        have HP := Lib.hid (put_mid HCH4.out.mid HB4.out.size ⟨HBQ.out.hlen, HBQ.out.plen, HBQ.out.ids.each, HFK.out⟩ (Nat.le_refl _) ho5 hkp hpn hy5 (fun k hk => (hnx k hk).imp id (fun h => Nat.le_trans hy2s h)))
        have hc5 : w5.cell? ⟨w.heap.size, 2, none⟩ = some (.slice p dk.length c) := hk2.out w5 hy5
        have hf5 : w5.frozen? ⟨w.heap.size, 2, none⟩ = false := frozen_of_row _ _ _ _ _ (hy5.keep HCH4.out.row (fun hi => HNE.out _ hi rfl))
        have HLE : Hid (∀ i, (Value.slice p dk.length c).ownBlock = some i → w.heap.size ≤ i) := fun i hi => (keeps_lt HCH4.out.keeps i hi).1
        clear hy0 hy1 hy2 hy5 hkp hgr hnx ho5 hwl hkeep hby hy2s hpn
        clear HBYA HBS HRN HONE HN2 HO
        go_wp2_with fail
        refine noPanic_end ?_
        obtain ⟨p6, c6, rows6, hmid6, hp6, hT6, hn6⟩ := HP.out
        clear HP hc5 hf5
        generalize w5.setCell ⟨w.heap.size, 2, none⟩ (.slice p' (dk.length + 1) c') = w6 at *
        have HEND : Hid (LoadR depth ds (some ⟨b, o, none⟩) ds.length c0 rows0 w (k + 1) w6) := by
          refine ⟨HB4.out.trans (hT6.below (B := w.heap.size) HB4.out.size (fun i hi => ?_)), HG1.out, p6, c6, rows6, ?_, fun h => absurd h (by omega)⟩
          · rcases hi with hi | hi
            · omega
            · exact HLE.out i hi
          · rw [HTK.out]
            exact hmid6.at HD.out ⟨by have : dk.length = k := by rw [← HDK.out, List.length_take]; omega
                                      simp; omega, by omega⟩
        clear hmid6 hp6 hT6 hn6
        go_wp2_with fail
        go_roundw
        case rel => exact ⟨k + 1, by omega, by go_num, HEND.out⟩
        case measure => simp [intOf]; omega
      · have HG1 := Lib.hid (HGX.out hm)
        have hne : (mayE (ds.take k) 0 d != 0) = true := by rw [bne_iff_ne]; exact hm
        clear hm
        generalize mayE (ds.take k) 0 d = E at *
        go_wp2_with fail
        go_ret2
        exact .inr ⟨HG1.out, rfl, HB4.out⟩
    · have hd : decide ((k : Int) < (ds.length : Int)) = false := decide_eq_false (by omega)
      have HGE : Hid (goesB ds ds.length = true) := by show _ = _; have := HGO.out; rwa [show k = ds.length by omega] at this
      have htk : ds.take k = ds := List.take_of_length_le (by omega)
      have hmid := HCH.out.mid
      have hp0 := HP0.out
      rw [htk] at hmid
      obtain ⟨hmid2, hT2⟩ := mid_high (height' := height) hmid
      have HE : Hid (LoadP depth height ds w (.returned (.tuple #[.pointer (some ⟨w.heap.size, 0, none⟩), .int .i64 0])) (wr.setCell ⟨w.heap.size, 1, none⟩ (.int .u32 (height : Int)))) :=
        .inl ⟨HGE.out, _, _, _, _, rfl, Nat.le_refl _, hmid2.at HD.out ⟨hl, hh2⟩, HB0.out.trans (hT2.below HB0.out.size (fun i hi => by omega)), fun e => hp0 (by rw [e] at hk; simpa using hk)⟩
      have hc1 : wr.cell? ⟨w.heap.size, 1, none⟩ = some (.int .u32 0) := HCH.out.cells.2.1
      have hf1 : wr.frozen? ⟨w.heap.size, 1, none⟩ = false := HCH.out.cells.2.2.2 1
      clear htk hmid hmid2 hT2 hp0
      go_wp2_with fail
      go_ret2
      exact HE.out

/-- what is left of a chain made -/
def NewP (d : Nat) (w : World) (e : Ending) (w' : World) : Prop := ∃ cb rows, e = .returned (.tuple #[.pointer (some ⟨cb, 0, none⟩), .int .i64 0]) ∧ w.heap.size ≤ cb ∧ ChAt w' w.heap.size cb d 0 [] none 0 rows ∧ Below w.heap.size w w'
set_option maxRecDepth 100000 in
theorem new_any (d : Nat) (w : World) (hd : 1 ≤ d ∧ d ≤ 16) : Calls Try.prog 10 #[.int .i64 (d : Int)] w (NewP d w) := by
  have HD := Lib.hid hd
  go_enter Try.func10, Try.ntmps10
  go_wp2_with fail
  refine (load_any d 0 [] none 0 [] _ (Bks.nil _) (fun d h => by simp at h) HD.out (by simp) (by simp) (by omega)).mono ?_
  rintro e w2 (⟨_, cb, p, c, rows, rfl, hcb, hch, hb, hp⟩ | ⟨h, _⟩)
  · obtain rfl := hp rfl
    have hc : c = 0 := by
      obtain ⟨p', c', e1, hs⟩ := keeps_sl hch.keeps
      cases e1
      exact hs.nil0 rfl
    subst hc
    have HE : Hid (NewP d w (.returned (.tuple #[.pointer (some ⟨cb, 0, none⟩), .int .i64 0])) w2) := ⟨cb, rows, rfl, hcb, hch, hb⟩
    clear hcb hch hb hp
    go_wp2_with fail
    go_ret2
    exact HE.out
  · cases h
end Go.Proofs.Ytepemfgiigceoaa.Chn
