/- THE WALKS OF A CHAIN, on: its window told. Conditions: none. -/
import Derived.Test.YtepemfgiigceoaaChain8
namespace Go.Proofs.Ytepemfgiigceoaa.Chn
open Go.RowKit Go.Mir Go.Mir.Parts Go.Proofs.Ytepemfgiigceoaa.Blk

/-- blocks that the call laid -/
structure Own (w : World) (base : Nat) (p : Option Addr) (n c : Nat) (ds : List BlkD) (rows : List (List Value)) : Prop where
  own : w.ownsRow base 33 65 (.slice p n c) n rows.flatten
  count : rows.length = n
  each : ∀ (i : Nat) r d, rows[i]? = some r → ds[i]? = some d → ChB w base r d
theorem Own.touch {S : Nat → Prop} {w w' : World} {base : Nat} {p : Option Addr} {n c : Nat} {ds : List BlkD} {rows : List (List Value)} (h : Own w base p n c ds rows) (ht : Turns S w w') (hS : ∀ k M fr, w.heap[k]? = some (.cells M 30 fr) → ¬ S k) (ho : ∀ k, (Value.slice p n c).ownBlock = some k → ¬ S k) : Own w' base p n c ds rows :=
  ⟨own_touch h.own ht ho, h.count, fun i r d h1 h2 => (h.each i r d h1 h2).touch ht hS⟩
theorem Own.below {w w' : World} {base : Nat} {p : Option Addr} {n c : Nat} {ds : List BlkD} {rows : List (List Value)} (h : Own w base p n c ds rows) (hb : Below w.heap.size w w') : Own w' base p n c ds rows :=
  h.touch (Turns.of_below (S := fun _ => False) hb) (fun _ _ _ _ h => h) (fun _ _ h => h)
theorem Own.bks {w : World} {base : Nat} {p : Option Addr} {c : Nat} {ds : List BlkD} {rows : List (List Value)} (h : Own w base p ds.length c ds rows) : Bks w p ds.length c ds rows := by
  obtain ⟨p', c', e, hs⟩ := own_sl h.own
  cases e
  refine ⟨⟨hs, fun r hr => ?_, h.count⟩, rfl, fun i r d h1 h2 => (h.each i r d h1 h2).blk⟩
  obtain ⟨i, hi⟩ := List.mem_iff_getElem?.1 hr
  have hl := (List.getElem?_eq_some_iff.1 hi).1
  exact (h.each i r _ hi (List.getElem?_eq_getElem (by have := h.count; omega))).len
theorem flatten_len65 {w : World} {base : Nat} {ds : List BlkD} : ∀ {rows : List (List Value)}, (∀ r ∈ rows, ∃ d, ChB w base r d) → rows.flatten.length = rows.length * 65
  | [], _ => rfl
  | r :: rs, h => by
    obtain ⟨d, hd⟩ := h r (by simp)
    rw [List.flatten_cons, List.length_append, hd.len, flatten_len65 (ds := ds) (fun r' hr => h r' (by simp [hr])), List.length_cons]
    omega
/-- what is left of a window told -/
def WinP (ds : List BlkD) (w : World) (e : Ending) (w' : World) : Prop := ∃ p c rows, e = .returned (.slice p ds.length c) ∧ Own w' w.heap.size p ds.length c ds rows ∧ Below w.heap.size w w'
def WinR (ds : List BlkD) (w : World) (k : Nat) (v : Value) (wr : World) : Prop := ∃ p c rows, v = .slice p k c ∧ Own wr w.heap.size p k c ds rows ∧ Below w.heap.size w wr

set_option maxRecDepth 100000 in
set_option maxHeartbeats 800000 in
theorem window_any {base cb depth height : Nat} {ds : List BlkD} {p : Option Addr} {c : Nat} {rows : List (List Value)} (w : World) (h : ChAt w base cb depth height ds p c rows) :
    Calls Try.prog 12 #[.pointer (some ⟨cb, 0, none⟩)] w (WinP ds w) := by
  obtain ⟨Z, hz, hZ⟩ := zBlk
  have HZZ := Lib.hid hZ
  have H := Lib.hid h
  have hm := h.many
  obtain ⟨hd1, hd2⟩ := h.depth1
  have hc2 := h.cells.2.2.1
  clear h hZ
  go_enter Try.func12, Try.ntmps12
  go_wp2_with fail
  refine (none_any cb depth _ H.out.cells.1 H.out.depth1.1).mono ?_
  rintro e w' ⟨rfl, hw⟩
  obtain rfl : w = w' := hw.symm
  go_wp2_with fail
  clear hc2
  go_loopw [3, 13] (fun v j wr => ∃ k : Nat, k ≤ ds.length ∧ j = .int .i64 k ∧ WinR ds w k v wr) (fun _ j _ => ds.length - (intOf j).toNat)
  case atStart => exact ⟨0, by omega, rfl, none, 0, [], rfl, ⟨World.ownsRow_nil _ _ _ _, rfl, fun i r d h => by simp at h⟩, Below.refl _ _⟩
  case round =>
    obtain ⟨k, hk, rfl, p1, c1, rows1, rfl, hown, hb0⟩ := hrel
    have HB0 := Lib.hid hb0
    have HO := Lib.hid hown
    clear hb0 hown
    by_cases hlt : k < ds.length
    · have hd : decide ((k : Int) < (ds.length : Int)) = true := decide_eq_true (by omega)
      have hrs := H.out.rs
      have hri : k < rows.length := by rw [H.out.count]; omega
      obtain ⟨b, o, rfl⟩ := hrs.sl.addr (by omega) (by omega)
      have hch := H.out.each k _ (ds[k]'hlt) (List.getElem?_eq_getElem hri) (List.getElem?_eq_getElem hlt)
      obtain ⟨q, cq, hrq, hbq⟩ := hch.blk
      have HRG0 := Lib.hid (range_below (hrs.row k hri) HB0.out)
      rw [hrq] at HRG0
      have HGK : Hid (ds[k]? = some (ds[k]'hlt)) := List.getElem?_eq_getElem hlt
      have HFK := Lib.hid (H.out.few _ (List.getElem_mem hlt))
      generalize (ds[k]'hlt) = d at *
      obtain ⟨A, hA⟩ : ∃ A, A = blkA d.hash d.par q d.txs.length cq := ⟨_, rfl⟩
      rw [← hA] at HRG0 hbq
      clear hA hch hrq hrs
      have HBQ := Lib.hid (hbq.below HB0.out)
      have HAS := Lib.hid hbq.size
      have HAO := Lib.hid hbq.one
      have HAL : Hid (A.toList.length = 65) := by show _ = _; rw [Array.length_toList]; exact hbq.size
      have HNW := Lib.hid (box_new wr Z 33)
      have HBR := Lib.hid (box_row wr Z A 33)
      have HBB := Lib.hid (box_below wr Z A 33)
      have HB3 := Lib.hid (HB0.out.trans (HBB.out.mono HB0.out.size))
      have HO3 := Lib.hid (HO.out.below HBB.out)
      have HBQ3 := Lib.hid (HBQ.out.below HBB.out)
      clear hbq
      go_wp2_with (first
        | ((with_reducible refine wpAt 16 ?_); refine wpList_load_mid rfl 33 _ rfl b (o + k * 65) rfl A.toList _ HRG0.out Try.underlying33 rfl (infoBlk _ HAL.out) ?_)
        | ((with_reducible refine wpStoreAt 5 ?_); refine wpList_store_row rfl 33 _ _ rfl wr.heap.size A rfl rfl 33 Z HNW.out (infoBlk _ HAS.out) (HZZ.out.trans HAS.out.symm) HAO.out ?_)
        | ((with_reducible refine wpAt 18 ?_); refine wpList_load_row_g rfl 33 _ rfl wr.heap.size rfl 33 A (0, 0) _ HBR.out Try.underlying33 rfl (infoBlk _ HAS.out) ?_))
      generalize (wr.alloc (.cells Z 33)).setRow wr.heap.size A = w3 at *
      refine (copy_any A d q _ cq w3 HBQ3.out HFK.out).mono ?_
      rintro e y ⟨p2, c2, rfl, ho, hb4⟩
      have HOC := Lib.hid ho
      have HB4 := Lib.hid (HB3.out.trans (hb4.mono HB3.out.size))
      have HO4 := Lib.hid (HO3.out.below hb4)
      have HN2 : Hid (BlkAt y (blkA d.hash d.par p2 d.txs.length c2) d p2 d.txs.length c2) := own_blk HBQ.out.hlen HBQ.out.plen HBQ.out.ids.each rfl ho
      have HS3 := Lib.hid HB3.out.size
      have HBL := Lib.hid (And.intro HBQ.out.hlen (And.intro HBQ.out.plen HBQ.out.ids.each))
      have HRN := Lib.hid (heap_alloc_last y (.cells (blkA d.hash d.par p2 d.txs.length c2) 33))
      have HOA := Lib.hid (HO4.out.below (Below.allocs y (.cells (blkA d.hash d.par p2 d.txs.length c2) 33)))
      have HOCA := Lib.hid (own_below_alloc ho (.cells (blkA d.hash d.par p2 d.txs.length c2) 33))
      have HB5 := Lib.hid (HB4.out.alloc HB4.out.size (.cells (blkA d.hash d.par p2 d.txs.length c2) 33))
      have HONE : Hid (∀ u ∈ (blkA d.hash d.par p2 d.txs.length c2).toList, u.oneCell' = true) := fun u hu => List.all_eq_true.1 (by rw [Array.all_toList]; exact HN2.out.one) u hu
      have HKL : Hid (k + 1 ≤ 9223372036854775807 ∧ (k + 1) * 88 ≤ 140737488355328) := ⟨by omega, by omega⟩
      clear ho hb4
      go_wp2_with (first
        | ((with_reducible refine wpAt 20 ?_); refine wpList_buildOne rfl 37 33 _ rfl (blkA d.hash d.par p2 d.txs.length c2) rfl 65 Try.underlying37 (by kernel_rfl) (by omega) (by omega) HN2.out.size ?_)
        | ((with_reducible refine wpAt 21 ?_); refine wpList_append_nx rfl _ _ 37 rfl (base := w.heap.size) Try.underlying37 infoBlocks zblk_size (by omega) rfl HOA.out.own rfl (row_sl HRN.out 65 HN2.out.size) HONE.out HKL.out HB5.out.size ?_))
      intro p6 c6 w6 ho6 hg6 hnx6 hz6
      have hb6 : Below w.heap.size w w6 := HB5.out.grown hg6 HB5.out.size (fun i hi => (HOA.out.own.lt i hi).1)
      have hT : Turns (fun i => (Value.slice p1 k c1).ownBlock = some i) (y.alloc (.cells (blkA d.hash d.par p2 d.txs.length c2) 33)) w6 := Turns.grown hg6 (S := fun i => (Value.slice p1 k c1).ownBlock = some i) (fun i hi => hi)
      have hap : ∀ i M fr, (y.alloc (.cells (blkA d.hash d.par p2 d.txs.length c2) 33)).heap[i]? = some (.cells M 30 fr) → ¬ (Value.slice p1 k c1).ownBlock = some i := fun i M fr h e => keeps_ne_cells (keeps_of_owns HOA.out.own) h (by decide) i e rfl
      have HEND : Hid (WinR ds w (k + 1) (.slice p6 (k + 1) c6) w6) := by
        refine ⟨p6, c6, rows1 ++ [(blkA d.hash d.par p2 d.txs.length c2).toList], rfl, ⟨by simpa using ho6, by simp [HO.out.count], fun i r d' h1 h2 => ?_⟩, hb6⟩
        rcases get_snoc h1 with h1 | ⟨hi, h1⟩
        · exact (HOA.out.each i r d' h1 h2).touch hT hap
        · rw [hi, HO.out.count, HGK.out] at h2
          cases h2
          subst h1
          refine ⟨p2, c2, rfl, HBL.out.1, HBL.out.2.1, HBL.out.2.2, own_base (own_touch HOCA.out hT (fun j hj e => ?_)) (fun j hj => ?_)⟩
          · rcases HOCA.out.2 with ⟨hv, _⟩ | ⟨g, cap, cur, hv, _, hg, _⟩
            · rw [hv] at hj; simp [Value.ownBlock] at hj
            · rw [hv] at hj; simp [Value.ownBlock] at hj; subst hj; exact hap _ _ _ hg e
          · exact Nat.le_trans HS3.out (HOCA.out.lt j hj).1
      clear hb6 hT hap ho6 hg6 hnx6 hz6
      go_wp2_with fail
      go_roundw
      case rel => exact ⟨k + 1, by omega, by go_num, HEND.out⟩
      case measure => simp [intOf]; omega
    · have hd : decide ((k : Int) < (ds.length : Int)) = false := decide_eq_false (by omega)
      obtain rfl : k = ds.length := by omega
      have HE : Hid (WinP ds w (.returned (.slice p1 ds.length c1)) wr) := ⟨p1, c1, rows1, rfl, HO.out, HB0.out⟩
      go_wp2_with fail
      go_ret
      exact HE.out
end Go.Proofs.Ytepemfgiigceoaa.Chn
