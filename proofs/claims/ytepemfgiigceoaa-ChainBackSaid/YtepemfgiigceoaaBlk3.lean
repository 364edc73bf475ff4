/- THE WALKS OF BLOCKS, on: the ids with a hint. Conditions: as in the first part. -/
import Derived.Test.YtepemfgiigceoaaBlk2
namespace Go.Proofs.Ytepemfgiigceoaa.Blk
open Go.RowKit Go.Mir Go.Mir.Parts

theorem infoIds : (Try.prog.info? 30).map (fun i => (i.zero, i.size, i.bytes)) = some (some (.agg (idA zeros)), 32, 32) := by kernel_rfl
/-- what is left of ids gathered -/
def IdsP (ids : List (List UInt8)) (w : World) (e : Ending) (w' : World) : Prop := ∃ p c, e = .returned (.slice p ids.length c) ∧ Is w' p ids.length c 32 ids ∧ (∀ a, p = some a → w.heap.size ≤ a.block) ∧ Below w.heap.size w w'
theorem ids_of_own {w w' : World} {v : Value} {ids : List (List UInt8)} (h : w'.ownsRow w.heap.size 30 32 v ids.length (ids.flatMap bytesV)) (hl : ∀ x ∈ ids, x.length = 32) (hb : Below w.heap.size w w') : IdsP ids w (.returned v) w' := by
  obtain ⟨p, c, rfl, hs⟩ := own_sl h
  refine ⟨p, c, rfl, ⟨hs, hl, rfl⟩, fun a ha => ?_, hb⟩
  subst ha
  obtain ⟨g, cap, e, hg, _⟩ := own_some h (by simp)
  cases e; exact hg
theorem made_id (w : World) (y : List UInt8) (M : Array Value) (t : TypeId) (hM : M.toList = bytesV y) (hy : y.length = 32) : Sl (w.alloc (.cells M t)) (some ⟨w.heap.size, 0, none⟩) 1 1 32 (bytesV y) :=
  ⟨by rw [bytesV_length, hy], Nat.le_refl _, by omega, fun h => (by cases h), fun a ha j u hu => by
    obtain rfl := Option.some.inj ha
    rw [add_none, cell_of_row _ _ _ _ _ _ (heap_alloc_last _ _), ← Array.getElem?_toList, hM, Nat.zero_add]; exact hu⟩
theorem filter_snoc (f : List UInt8 → Bool) (l : List (List UInt8)) (k : Nat) (h : k < l.length) : (l.take (k + 1)).filter f = (l.take k).filter f ++ if f l[k] then [l[k]] else [] := by
  rw [take_snoc l k h, List.filter_append]
  cases hf : f l[k] <;> simp [hf]
/-- what the call owns lies apart from a row of another type -/
theorem own_ne_cells {w : World} {base e size n : Nat} {v : Value} {xs : List Value} {k : Nat} {M : Array Value} {t : TypeId} {fr : Nat × Nat} (h : w.ownsRow base e size v n xs) (hk : w.heap[k]? = some (.cells M t fr)) (hne : t ≠ e) : ∀ i, v.ownBlock = some i → ¬ i = k := by
  intro i hi e1
  subst e1
  rcases h.2 with ⟨rfl, _⟩ | ⟨g, cap, cur, rfl, _, hg, _⟩
  · simp [Value.ownBlock] at hi
  · simp [Value.ownBlock] at hi
    subst hi
    rw [hk] at hg; cases hg; exact hne rfl
/-- which ids have a hint -/
def hintedL (h : List UInt8) (l : List (List UInt8)) : List (List UInt8) := l.filter fun y => y.take 16 == h

set_option maxRecDepth 100000 in
set_option maxHeartbeats 400000 in
theorem hinted_any (M : Array Value) (d : BlkD) (q : Option Addr) (n c : Nat) (h : List UInt8) (w : World) (hM : BlkAt w M d q n c) (hh : h.length = 16) (hn : n ≤ 1099511627776) :
    Calls Try.prog 24 #[.agg M, .agg (idA h)] w (IdsP (hintedL h d.txs) w) := by
  have HM := Lib.hid hM
  have HH := Lib.hid hh
  have hz := zeroI
  have hcnt : d.txs.length = n := hM.ids.count
  have hcap := hM.ids.sl.le
  have hmax := hM.ids.sl.max
  have HC := Lib.hid hcnt
  clear hM hh hcnt
  go_enter Try.func24, Try.ntmps24
  have H2 := Lib.hid (two_allocs w (.cells M 33) (.cells (idA h) 52))
  have hc64 := (HM.out.parts H2.out.1).2.2
  go_wp2_with fail
  have HR := Lib.hid H2.out.2.1
  have HB := Lib.hid H2.out.2.2.2
  generalize (w.alloc (.cells M 33)).alloc (.cells (idA h) 52) = w2 at *
  clear hc64
  go_loopw [5, 11] (fun v j wr => ∃ (k : Nat) (p : Option Addr) (m cc : Nat), k ≤ n ∧ j = .int .i64 k ∧ v = .slice p m cc ∧ m = (hintedL h (d.txs.take k)).length ∧ wr.ownsRow w.heap.size 30 32 v m ((hintedL h (d.txs.take k)).flatMap bytesV) ∧ wr.heap[w.heap.size + 1]? = some (.cells (idA h) 52 (0, 0)) ∧ Below w.heap.size w wr) (fun _ j _ => n - (intOf j).toNat)
  case atStart => exact ⟨0, none, 0, 0, by omega, rfl, rfl, rfl, ⟨rfl, .inl ⟨rfl, rfl⟩⟩, HR.out, HB.out⟩
  case round =>
    obtain ⟨k, p, m, cc, hk, rfl, rfl, hm, hown, hrow, hbw⟩ := hrel
    have HMM := Lib.hid hm
    have HOW := Lib.hid hown
    have HROW := Lib.hid hrow
    have HBW := Lib.hid hbw
    have hmle : m ≤ n := by
      rw [hm]
      have h1 := List.length_filter_le (fun y => y.take 16 == h) (d.txs.take k)
      have h2 : (d.txs.take k).length ≤ k := by rw [List.length_take]; omega
      unfold hintedL; omega
    clear hown hrow hbw hm
    by_cases hlt : k < n
    · obtain ⟨b, o, rfl⟩ := HM.out.ids.sl.addr (by omega) (by omega)
      have hlk : k < d.txs.length := by rw [HC.out]; exact hlt
      have HRG := Lib.hid ((HM.out.ids.below HBW.out).range (by omega) k hlk)
      have HLK : Hid ((d.txs[k]'hlk).length = 32) := HM.out.ids.each _ (List.getElem_mem _)
      have HFS : Hid (hintedL h (d.txs.take (k + 1)) = hintedL h (d.txs.take k) ++ if (d.txs[k]'hlk).take 16 == h then [d.txs[k]'hlk] else []) := filter_snoc _ _ k hlk
      generalize d.txs[k]'hlk = y at *
      have HYS : Hid ((idA y).size = 32) := by show _ = _; rw [idA_size, HLK.out]
      have HYL : Hid ((idA y).toList.length = 32) := by show _ = _; rw [Array.length_toList, HYS.out]
      have HNW := Lib.hid (box_new wr (idA zeros) 30)
      have HBR := Lib.hid (box_row wr (idA zeros) (idA y) 30)
      have HBB := Lib.hid (box_below wr (idA zeros) (idA y) 30)
      have HSZ := Lib.hid (box_size wr (idA zeros) (idA y) 30)
      have HR3 := Lib.hid (Below.keepOld HBB.out HROW.out)
      have HB3 := Lib.hid (HBW.out.trans (HBB.out.mono HBW.out.size))
      have HO3 := Lib.hid (own_touch HOW.out (Turns.of_below (S := fun _ => False) HBB.out) (fun _ _ h => h))
      have hd : decide ((k : Int) < (n : Int)) = true := decide_eq_true (by omega)
      have hq : ∀ w, (Op.equalIn 10000 52 (.agg (idA (y.take 16))) (.agg (idA h))).run Try.prog w = .ok (y.take 16 == h) w := fun w => eqH w _ h (by rw [List.length_take, HLK.out]; rfl) HH.out
      by_cases hyx : (y.take 16 == h) = true
      · go_wp2_with (first
          | refine wpList_load_mid rfl 30 _ rfl b (o + k * 32) rfl (idA y).toList _ HRG.out Try.underlying30 rfl (infoI _ HYL.out) ?_
          | refine wpList_store_row rfl 30 _ _ rfl wr.heap.size (idA y) rfl rfl 30 (idA zeros) HNW.out (infoI _ HYS.out) (zeros_size.trans HYS.out.symm) (idA_one y) ?_)
        generalize (wr.alloc (.cells (idA zeros) 30)).setRow wr.heap.size (idA y) = w3 at *
        have HG1 : Hid (∀ z : Grown w3, z.v.rangeAt wr.heap.size 0 (idA y).toList) := fun z => range_grown (fun j v hv => by rw [cell_of_row _ _ _ _ _ _ HBR.out, ← Array.getElem?_toList, Nat.zero_add]; exact hv) z
        have HG2 : Hid (∀ z : Grown w3, z.v.rangeAt (w.heap.size + 1) 0 (idA h).toList) := fun z => range_grown (fun j v hv => by rw [cell_of_row _ _ _ _ _ _ HR3.out, ← Array.getElem?_toList, Nat.zero_add]; exact hv) z
        refine wp_region_grow (by kernel_rfl) (by kernel_rfl) ?_
        repeat (first
          | refine wpQuiet_load rfl 30 _ rfl wr.heap.size 0 rfl (idA y) _ HG1.out Try.underlying30 rfl (infoI _ HYS.out) ?_
          | refine wpQuiet_load rfl 52 _ rfl (w.heap.size + 1) 0 rfl (idA h) _ HG2.out Try.underlying52 rfl (infoH _ (by rw [idA_size, HH.out])) ?_
          | quiet_step ((first | (go_at_call 45; exact Calls.grow_of (hintOf_any y _ HLK.out)))))
        refine wpQuiet_nil ?_
        intro w4 hb4
        have HR4 := Lib.hid (Below.keepOld hb4 HR3.out)
        have HB4 := Lib.hid (HB3.out.trans (hb4.mono HB3.out.size))
        have HBR4 := Lib.hid (Below.keepOld hb4 HBR.out)
        have HO4 := Lib.hid (own_touch HO3.out (Turns.of_below (S := fun _ => False) hb4) (fun _ _ h => h))
        have HS4 := Lib.hid hb4.size
        clear hb4 hq
        have HSL : Hid (Sl (w4.alloc (.cells (idA y) 30)) (some ⟨w4.heap.size, 0, none⟩) 1 1 32 (bytesV y)) := made_id w4 y _ _ (idA_toList y) HLK.out
        have HO5 : Hid ((w4.alloc (.cells (idA y) 30)).ownsRow w.heap.size 30 32 (.slice p m cc) m ((hintedL h (d.txs.take k)).flatMap bytesV)) := HO4.out.alloc _
        have HSZ4 : Hid (w.heap.size ≤ (w4.alloc (.cells (idA y) 30)).heap.size) := by have := HB4.out.size; show _ ≤ _; simp; omega
        go_wp2_with (first
          | refine wpList_load_row rfl 30 _ rfl wr.heap.size rfl 30 (idA y) (0, 0) _ HBR4.out Try.underlying30 rfl (infoI _ HYS.out) ?_
          | refine wpList_buildOne rfl 31 30 _ rfl (idA y) rfl 32 Try.underlying31 (by kernel_rfl) (by omega) (by omega) HYS.out ?_
          | (at_builtin; refine wpList_append_nx rfl _ _ 31 rfl (base := w.heap.size) Try.underlying31 infoIds (by rw [show (Value.agg (idA zeros)).cells = idA zeros from rfl]; exact zeros_size) (by omega) rfl HO5.out rfl HSL.out (bytesV_one _) (by omega) HSZ4.out ?_))
        intro p' c' w5 hown hg hnx hne
        have hr5 : w5.heap[w.heap.size + 1]? = some (.cells (idA h) 52 (0, 0)) := by
          have h1 := block_old (.cells (idA y) 30) HR4.out
          rw [hg.block _ (Array.getElem?_eq_some_iff.1 h1).1 (fun e => own_ne_cells HOW.out HROW.out (by decide) _ e.symm rfl)]
          exact h1
        have hb5 : Below w.heap.size w w5 := (HB4.out.alloc HB4.out.size _).grown hg HSZ4.out (fun i hi => (HO5.out.lt i hi).1)
        have HO6 := Lib.hid hown
        have HR5 := Lib.hid hr5
        have HB5 := Lib.hid hb5
        have HT : Hid (hintedL h (d.txs.take (k + 1)) = hintedL h (d.txs.take k) ++ [y]) := by show _ = _; rw [HFS.out, if_pos hyx]
        clear hown hg hnx hne hr5 hb5
        go_wp2_with fail
        go_roundw
        case rel =>
          refine ⟨k + 1, p', m + 1, c', by omega, by go_num, rfl, by rw [HT.out, List.length_append, ← HMM.out]; rfl, ?_, HR5.out, HB5.out⟩
          have := HO6.out
          rw [HT.out, List.flatMap_append]
          simpa using this
        case measure => simp [intOf]; omega
      · have hyx' : (y.take 16 == h) = false := by simpa using hyx
        have HT : Hid (hintedL h (d.txs.take (k + 1)) = hintedL h (d.txs.take k)) := by show _ = _; rw [HFS.out, hyx']; simp
        clear hyx
        go_wp2_with (first
          | refine wpList_load_mid rfl 30 _ rfl b (o + k * 32) rfl (idA y).toList _ HRG.out Try.underlying30 rfl (infoI _ HYL.out) ?_
          | refine wpList_store_row rfl 30 _ _ rfl wr.heap.size (idA y) rfl rfl 30 (idA zeros) HNW.out (infoI _ HYS.out) (zeros_size.trans HYS.out.symm) (idA_one y) ?_)
        generalize (wr.alloc (.cells (idA zeros) 30)).setRow wr.heap.size (idA y) = w3 at *
        have HG1 : Hid (∀ z : Grown w3, z.v.rangeAt wr.heap.size 0 (idA y).toList) := fun z => range_grown (fun j v hv => by rw [cell_of_row _ _ _ _ _ _ HBR.out, ← Array.getElem?_toList, Nat.zero_add]; exact hv) z
        have HG2 : Hid (∀ z : Grown w3, z.v.rangeAt (w.heap.size + 1) 0 (idA h).toList) := fun z => range_grown (fun j v hv => by rw [cell_of_row _ _ _ _ _ _ HR3.out, ← Array.getElem?_toList, Nat.zero_add]; exact hv) z
        refine wp_region_grow (by kernel_rfl) (by kernel_rfl) ?_
        repeat (first
          | refine wpQuiet_load rfl 30 _ rfl wr.heap.size 0 rfl (idA y) _ HG1.out Try.underlying30 rfl (infoI _ HYS.out) ?_
          | refine wpQuiet_load rfl 52 _ rfl (w.heap.size + 1) 0 rfl (idA h) _ HG2.out Try.underlying52 rfl (infoH _ (by rw [idA_size, HH.out])) ?_
          | quiet_step ((first | (go_at_call 45; exact Calls.grow_of (hintOf_any y _ HLK.out)))))
        refine wpQuiet_nil ?_
        intro w4 hb4
        have HR4 := Lib.hid (Below.keepOld hb4 HR3.out)
        have HB4 := Lib.hid (HB3.out.trans (hb4.mono HB3.out.size))
        have HBR4 := Lib.hid (Below.keepOld hb4 HBR.out)
        have HO4 := Lib.hid (own_touch HO3.out (Turns.of_below (S := fun _ => False) hb4) (fun _ _ h => h))
        have HS4 := Lib.hid hb4.size
        clear hb4 hq
        go_wp2_with fail
        go_roundw
        case rel => exact ⟨k + 1, p, m, cc, by omega, by go_num, rfl, by rw [HT.out]; exact HMM.out, by rw [HT.out]; exact HO4.out, HR4.out, HB4.out⟩
        case measure => simp [intOf]; omega
    · have HE : Hid (hintedL h (d.txs.take k) = hintedL h d.txs) := by show _ = _; rw [List.take_of_length_le (by rw [HC.out]; omega)]
      have HAL : Hid (∀ x ∈ hintedL h d.txs, x.length = 32) := fun x hx => HM.out.ids.each x (List.mem_filter.1 hx).1
      have HFIN : Hid (IdsP (hintedL h d.txs) w (.returned (.slice p m cc)) wr) := by
        refine ids_of_own ?_ HAL.out HBW.out
        have h1 := HOW.out
        rw [HMM.out, HE.out] at h1
        rw [HMM.out, HE.out]
        exact h1
      have hd : decide ((k : Int) < (n : Int)) = false := decide_eq_false (by omega)
      go_wp2_with fail
      go_ret
      exact HFIN.out
end Go.Proofs.Ytepemfgiigceoaa.Blk
