/- THE WALKS OF A CHAIN, on: the tip taken away. Conditions: none. -/
import Derived.Test.YtepemfgiigceoaaChain6
namespace Go.Proofs.Ytepemfgiigceoaa.Chn
open Go.RowKit Go.Mir Go.Mir.Parts Go.Proofs.Ytepemfgiigceoaa.Blk

/-- what taking the tip away answers -/
def discE (ds : List BlkD) (x : List UInt8) : Int := match ds.getLast? with
  | none => 19
  | some t => if (t.hash == x) = true then (if ds.length < 2 then 20 else 0) else 19
def DiscP (base cb depth height : Nat) (ds : List BlkD) (x : List UInt8) (p : Option Addr) (c : Nat) (w : World) (e : Ending) (w' : World) : Prop := e = .returned (.int .i64 (discE ds x)) ∧
  (¬ discE ds x = 0 → Below w.heap.size w w') ∧
  (discE ds x = 0 → ∃ c' rows', ChAt w' base cb depth (height - 1) ds.dropLast p c' rows' ∧ Turns (ChOwn cb p ds.length c) w w')
theorem disc_not {base cb depth height : Nat} {ds : List BlkD} {x : List UInt8} {p : Option Addr} {c : Nat} {w w' : World} {n : Int} (hn : discE ds x = n) (h0 : ¬ n = 0) (hb : Below w.heap.size w w') : DiscP base cb depth height ds x p c w (.returned (.int .i64 n)) w' :=
  ⟨by rw [hn], fun _ => hb, fun h => absurd (hn.symm.trans h) h0⟩
theorem eqI_ne (w : World) (a b : List UInt8) (ha : a.length = 32) (hb : b.length = 32) : (Op.equalIn 10000 30 (.agg (idA a)) (.agg (idA b))).run Try.prog w = .ok (a == b) w := eqI w a b ha hb
theorem mid_pop {base cb depth height : Nat} {ds : List BlkD} {g : Nat} {c : Nat} {rows : List (List Value)} {w : World} (h : ChMid w base cb depth height ds (some ⟨g, 0, none⟩) c rows) (hd : 2 ≤ ds.length) (k : Nat) (hk : k + 1 = ds.length) :
    ChMid (w.setCell ⟨cb, 2, none⟩ (.slice (some ⟨g, 0, none⟩) k k)) base cb depth height ds.dropLast (some ⟨g, 0, none⟩) k rows.dropLast ∧ Turns (fun i => i = cb) w (w.setCell ⟨cb, 2, none⟩ (.slice (some ⟨g, 0, none⟩) k k)) := by
  have hl : ds.dropLast.length = k := by rw [List.length_dropLast]; omega
  have hts : Turns (fun i => i = cb) w (w.setCell ⟨cb, 2, none⟩ (.slice (some ⟨g, 0, none⟩) k k)) := (Turns.refl (fun i => i = cb) w).setCell (p := ⟨cb, 2, none⟩) (fun _ => rfl) _
  have hkc := keeps_cut (k := k) h.keeps (by omega) (by simp)
  have hrl : ∀ r ∈ rows, r.length = 65 := fun r hr => by
    obtain ⟨i, hi⟩ := List.mem_iff_getElem?.1 hr
    have hl := (List.getElem?_eq_some_iff.1 hi).1
    exact (h.each i r _ hi (List.getElem?_eq_getElem (by have := h.count; omega))).len
  have hfl : rows.flatten.take (k * 65) = rows.dropLast.flatten := by
    obtain ⟨rs, r, rfl⟩ : ∃ rs r, rows = rs ++ [r] := by
      rcases List.eq_nil_or_concat rows with e | ⟨rs, r, e⟩
      · have := h.count; rw [e] at this; simp at this; omega
      · exact ⟨rs, r, by rw [e]; simp⟩
    have hn : rs.length = k := by have := h.count; simp at this; omega
    have hf : rs.flatten.length = k * 65 := by
      rw [← hn]
      have := flatMap_length (fun r : List Value => r) 65 rs (fun r hr => hrl r (by simp [hr]))
      simpa [List.flatMap_id] using this
    rw [List.dropLast_concat, List.flatten_append, List.take_append_of_le_length (by omega), List.take_of_length_le (by omega)]
  rw [hfl] at hkc
  refine ⟨⟨?_, h.low, ?_, ?_, ?_, fun d hd => h.few d (List.dropLast_subset _ hd)⟩, hts⟩
  · rw [hl, heap_setCell_same _ _ _ _ _ _ h.row]
    rfl
  · rw [hl]
    exact keeps_touch hkc hts (fun i hi e => keeps_ne_cells h.keeps h.row (by decide) i hi e)
  · have := h.count
    simp [this]
  · intro i r d h1 h2
    rw [List.dropLast_eq_take, List.getElem?_take] at h1 h2
    split at h1
    · split at h2
      · exact h.eachOn (hts.imp (fun _ _ h => .inl h)) i r d h1 h2
      · cases h2
    · cases h1

set_option maxRecDepth 100000 in
set_option maxHeartbeats 800000 in
theorem disc_any {base cb depth height : Nat} {ds : List BlkD} {p : Option Addr} {c : Nat} {rows : List (List Value)} (w : World) (h : ChAt w base cb depth height ds p c rows) (hlh : ds.length ≤ height) (x : List UInt8) (hx : x.length = 32) :
    Calls Try.prog 14 #[.pointer (some ⟨cb, 0, none⟩), .agg (idA x)] w (DiscP base cb depth height ds x p c w) := by
  obtain ⟨Z, hz, hZ⟩ := zBlk
  have HZZ := Lib.hid hZ
  have H := Lib.hid h
  have HX := Lib.hid hx
  have hb1 : Below w.heap.size w (w.alloc (.cells (idA x) 30)) := Below.allocs _ _
  have HB1 := Lib.hid hb1
  have H1 := Lib.hid (h.below hb1)
  have HR1 := Lib.hid (heap_alloc_last w (.cells (idA x) 30))
  have hm := h.many
  obtain ⟨hd1, hd2⟩ := h.depth1
  clear h hb1 hZ hx
  go_enter Try.func14, Try.ntmps14
  go_wp2_with fail
  refine (none_any cb depth _ H1.out.cells.1 H.out.depth1.1).mono ?_
  rintro e w' ⟨rfl, rfl⟩
  go_wp2_with fail
  refine (tip_q _ H1.out).mono ?_
  rintro e w2 ⟨A, t, qt, nt, ct, rfl, ht, hts, hb2⟩
  generalize w.alloc (.cells (idA x) 30) = w1 at *
  have HT := Lib.hid ht
  have HTS := Lib.hid hts
  have HB2 := Lib.hid (HB1.out.trans (hb2.mono HB1.out.size))
  have HR2 := Lib.hid (Below.keepOld hb2 HR1.out)
  have HAS := Lib.hid ht.size
  have HAO := Lib.hid ht.one
  have HNW := Lib.hid (box_new w2 Z 33)
  have hbb := box_below w2 Z A 33
  have HBR := Lib.hid (box_row w2 Z A 33)
  have HB3 := Lib.hid (HB2.out.trans (hbb.mono HB2.out.size))
  have HR3 := Lib.hid (Below.keepOld hbb HR2.out)
  have HPA := Lib.hid (ht.parts HBR.out).1
  have HHS : Hid ((idA t.hash).toList.length = 32) := by show _ = _; rw [Array.length_toList, idA_size, ht.hlen]
  have HHL := Lib.hid ht.hlen
  clear ht hts hb2 hbb
  cases hl : ds.getLast? with
  | none =>
    have HRES : Hid (discE ds x = 19) := by show _ = _; unfold discE; rw [hl]
    clear hl
    dsimp only [Option.isSome]
    go_wp2_with ((with_reducible refine wpStoreAt 5 ?_); refine wpList_store_row rfl 33 _ _ rfl w2.heap.size A rfl rfl 33 Z HNW.out (infoBlk _ HAS.out) (HZZ.out.trans HAS.out.symm) HAO.out ?_)
    go_ret
    exact disc_not HRES.out (by omega) HB3.out
  | some d =>
    obtain rfl := HTS.out d hl
    have hq : ∀ w, (Op.equalIn 10000 30 (.agg (idA t.hash)) (.agg (idA x))).run Try.prog w = .ok (t.hash == x) w := fun w => eqI w t.hash x HHL.out HX.out
    have H3 := Lib.hid (H.out.below HB3.out)
    cases hb : t.hash == x with
    | false =>
      have HRES : Hid (discE ds x = 19) := by show _ = _; unfold discE; rw [hl]; simp [hb]
      clear hl
      dsimp only [Option.isSome]
      go_wp2_with (first
        | ((with_reducible refine wpStoreAt 5 ?_); refine wpList_store_row rfl 33 _ _ rfl w2.heap.size A rfl rfl 33 Z HNW.out (infoBlk _ HAS.out) (HZZ.out.trans HAS.out.symm) HAO.out ?_)
        | ((with_reducible refine wpAt 19 ?_); refine wpList_load_mid rfl 30 _ rfl w2.heap.size 0 rfl (idA t.hash).toList _ HPA.out Try.underlying30 rfl (infoI _ HHS.out) ?_)
        | ((with_reducible refine wpAt 20 ?_); refine wpList_load_row rfl 30 _ rfl w.heap.size rfl 30 (idA x) (0, 0) _ HR3.out Try.underlying30 rfl (infoI _ (by rw [idA_size, HX.out])) ?_))
      go_ret
      exact disc_not HRES.out (by omega) HB3.out
    | true =>
      have hc2 : ((w2.alloc (.cells Z 33)).setRow w2.heap.size A).cell? ⟨cb, 2, none⟩ = some (.slice p ds.length c) := H3.out.cells.2.2.1
      by_cases hlt : ds.length < 2
      · have HRES : Hid (discE ds x = 20) := by show _ = _; unfold discE; rw [hl]; simp [hb, hlt]
        clear hl
        dsimp only [Option.isSome]
        go_wp2_with (first
          | ((with_reducible refine wpStoreAt 5 ?_); refine wpList_store_row rfl 33 _ _ rfl w2.heap.size A rfl rfl 33 Z HNW.out (infoBlk _ HAS.out) (HZZ.out.trans HAS.out.symm) HAO.out ?_)
          | ((with_reducible refine wpAt 19 ?_); refine wpList_load_mid rfl 30 _ rfl w2.heap.size 0 rfl (idA t.hash).toList _ HPA.out Try.underlying30 rfl (infoI _ HHS.out) ?_)
          | ((with_reducible refine wpAt 20 ?_); refine wpList_load_row rfl 30 _ rfl w.heap.size rfl 30 (idA x) (0, 0) _ HR3.out Try.underlying30 rfl (infoI _ (by rw [idA_size, HX.out])) ?_))
        go_ret
        exact disc_not HRES.out (by omega) HB3.out
      · have HRES : Hid (discE ds x = 0) := by show _ = _; unfold discE; rw [hl]; simp [hb, hlt]
        clear hl
        dsimp only [Option.isSome]
        go_wp2_with (first
          | ((with_reducible refine wpStoreAt 5 ?_); refine wpList_store_row rfl 33 _ _ rfl w2.heap.size A rfl rfl 33 Z HNW.out (infoBlk _ HAS.out) (HZZ.out.trans HAS.out.symm) HAO.out ?_)
          | ((with_reducible refine wpAt 19 ?_); refine wpList_load_mid rfl 30 _ rfl w2.heap.size 0 rfl (idA t.hash).toList _ HPA.out Try.underlying30 rfl (infoI _ HHS.out) ?_)
          | ((with_reducible refine wpAt 20 ?_); refine wpList_load_row rfl 30 _ rfl w.heap.size rfl 30 (idA x) (0, 0) _ HR3.out Try.underlying30 rfl (infoI _ (by rw [idA_size, HX.out])) ?_))
        generalize (w2.alloc (.cells Z 33)).setRow w2.heap.size A = w3 at *
        clear hc2
        obtain ⟨g, rfl, hgc⟩ : ∃ g, p = some ⟨g, 0, none⟩ ∧ ds.length ≤ c ∧ c ≤ 9223372036854775807 := by
          rcases H3.out.keeps.2 with ⟨_, hv⟩ | ⟨g, cap, cur, hv, _, _, h1, h2, _⟩
          · exact absurd hv (by omega)
          · cases hv; exact ⟨g, rfl, h1, by simpa [maxLen] using h2⟩
        obtain ⟨hgc, hgm⟩ := hgc
        obtain ⟨i, hi⟩ : ∃ i, i + 1 = ds.length := ⟨ds.length - 1, by omega⟩
        have hsub : (ds.length : Int) - 1 = (i : Int) := by omega
        have hwi : IntKind.i64.wrap ((ds.length : Int) - 1) = (i : Int) := by rw [hsub]; exact IntWalk.i64_in _ (by omega)
        have hwi2 : IntKind.i64.wrap (i : Int) = (i : Int) := IntWalk.i64_in _ (by omega)
        refine wp_region_tail 20 (by kernel_rfl) (by kernel_rfl) ?_
        simp only [List.take_succ_cons, List.take_zero, List.drop_succ_cons, List.drop_zero]
        have HD := Lib.hid (H3.out.below (below_drew1 w3.heap.size w3))
        have HBD := Lib.hid (HB3.out.trans (below_drew1 w.heap.size w3))
        generalize w3.drew = wd at *
        have hcd : wd.cell? ⟨cb, 2, none⟩ = some (.slice (some ⟨g, 0, none⟩) ds.length c) := HD.out.cells.2.2.1
        have hfd : wd.frozen? ⟨cb, 2, none⟩ = false := HD.out.cells.2.2.2 2
        have hcd1 : wd.cell? ⟨cb, 1, none⟩ = some (.int .u32 (height : Int)) := HD.out.cells.2.1
        have hfd1 : wd.frozen? ⟨cb, 1, none⟩ = false := HD.out.cells.2.2.2 1
        have hin : (i : Int) < (ds.length : Int) := by omega
        have hi0 : (0 : Int) ≤ (i : Int) := by omega
        have hic : i ≤ c := by omega
        have hh1 : 1 ≤ height := by omega
        obtain ⟨hmid, hT⟩ := mid_pop HD.out.mid (by omega) i hi
        obtain ⟨hmid2, hT2⟩ := mid_high (height' := height - 1) hmid
        have hcast : ((height - 1 : Nat) : Int) = (height : Int) - 1 := by omega
        have hdl : ds.dropLast.length = i := by rw [List.length_dropLast]; omega
        have hat := hmid2.at H.out.depth1 ⟨by omega, by omega⟩
        have htt := ((Turns.of_below (S := ChOwn cb (some ⟨g, 0, none⟩) ds.length c) HBD.out).trans hT (fun _ _ h => .inl h)).trans hT2 (fun _ _ h => .inl h)
        rw [hcast] at hat htt
        have HE : Hid (DiscP base cb depth height ds x (some ⟨g, 0, none⟩) c w (.returned (.int .i64 0)) _) := ⟨by rw [HRES.out], fun h => absurd HRES.out h, fun _ => ⟨_, _, hat, htt⟩⟩
        clear hmid hT hmid2 hT2 hcast hdl hat htt
        repeat still_step
        refine wpStill_nil ?_
        go_wp2_with fail
        go_ret
        exact HE.out
end Go.Proofs.Ytepemfgiigceoaa.Chn
