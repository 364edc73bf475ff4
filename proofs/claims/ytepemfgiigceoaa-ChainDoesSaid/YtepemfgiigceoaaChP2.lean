/- PARTS, JOINED: THE WALKS OF BLOCKS: which ids stand in one, hints, whether two are the same; the program's and the reference's. Conditions: at most 2^40 ids. THE WALKS OF BLOCKS, on: hints. Conditions: as in the first part. THE WALKS OF BLOCKS, on: the ids with a hint. Conditions: as in the first part. THE WALKS OF BLOCKS, on: the reference's hints; few, child, copy. Conditions: as in the first part. THE WALKS OF BLOCKS, on: are two the same? Conditions: as in the first part. THE WALKS OF BLOCKS, on: the program's Same and Copy. Conditions: as in the first part. THE WALKS OF THE WRITER: bytes one behind the other, room and a fault; each call as a plain function of what the writer held. Conditions: parts that stay as they are while the writer's own blocks turn. THE WALKS OF THE WRITER, on: put with any fault, Bytes, Id, Hint, Ids, Num, New, Len, Err, Done. Conditions: as in the first part. THE WALKS OF THE WRITER, on: Ids, Num. Conditions: as in the first part. -/
import Derived.Test.YtepemfgiigceoaaChP1
import Derived.Test.YtepemfgiigceoaaProg
import Derived.Laws.Tables
import Derived.Laws.Cover3
import Derived.BigQuiet
import Derived.Deep.QuietTactic
namespace Go.Proofs.Ytepemfgiigceoaa.Blk
open Go.RowKit Go.Mir Go.Mir.Parts

def zeros : List UInt8 := List.replicate 32 0
theorem zeroI (w : World) : (zeroValue 30).run Try.prog w = .ok (.agg (idA zeros)) w := by kernel_rfl
theorem zeros_size : (idA zeros).size = 32 := by decide
theorem eqI (w : World) (a b : List UInt8) (ha : a.length = 32) (hb : b.length = 32) : (Op.equalIn 10000 30 (.agg (idA a)) (.agg (idA b))).run Try.prog w = .ok (a == b) w :=
  run_equal_ids w 9998 Try.underlying30 Try.underlying5 (by kernel_rfl) (by kernel_rfl) (by kernel_rfl) a b ha hb
theorem infoI (n : Nat) (h : n = 32) : (Try.prog.info? 30).map (·.size) = some n := by subst h; kernel_rfl
theorem infoBlk (n : Nat) (h : n = 65) : (Try.prog.info? 33).map (·.size) = some n := by subst h; kernel_rfl

theorem bret {a b : Bool} (h : a = b) : Ending.returned (.bool a) = .returned (.bool b) := by rw [h]
/-! ### does an id stand in it? -/
set_option maxRecDepth 100000 in
theorem has_any (M : Array Value) (d : BlkD) (q : Option Addr) (n c : Nat) (x : List UInt8) (w : World) (hM : BlkAt w M d q n c) (hx : x.length = 32) (hn : n ≤ 1099511627776) :
    Calls Try.prog 21 #[.agg M, .agg (idA x)] w fun e w' => e = .returned (.bool (d.txs.contains x)) ∧ Below w.heap.size w w' := by
  have HM := Lib.hid hM
  have HX := Lib.hid hx
  have hz := zeroI
  have hcnt : d.txs.length = n := hM.ids.count
  have hcap := hM.ids.sl.le
  have hmax := hM.ids.sl.max
  have HC := Lib.hid hcnt
  clear hM hx hcnt
  go_enter Try.func21, Try.ntmps21
  have H2 := Lib.hid (two_allocs w (.cells M 33) (.cells (idA x) 30))
  have hc64 := (HM.out.parts H2.out.1).2.2
  go_wp2_with fail
  have HR := Lib.hid H2.out.2.1
  have HB := Lib.hid H2.out.2.2.2
  generalize (w.alloc (.cells M 33)).alloc (.cells (idA x) 30) = w2 at *
  clear hc64
  go_loopw [10] (fun j wr => ∃ k : Nat, k ≤ n ∧ j = .int .i64 k ∧ x ∉ d.txs.take k ∧ wr.heap[w.heap.size + 1]? = some (.cells (idA x) 30 (0, 0)) ∧ Below w.heap.size w wr) (fun j _ => n - (intOf j).toNat)
  case atStart => exact ⟨0, by omega, rfl, by simp, HR.out, HB.out⟩
  case round =>
    obtain ⟨k, hk, rfl, hnot, hrow, hbw⟩ := hrel
    have HNOT := Lib.hid hnot
    have HROW := Lib.hid hrow
    have HBW := Lib.hid hbw
    clear hnot hrow hbw
    by_cases hlt : k < n
    · obtain ⟨b, o, rfl⟩ := HM.out.ids.sl.addr (by omega) (by omega)
      have hlk : k < d.txs.length := by rw [HC.out]; exact hlt
      have HRG := Lib.hid ((HM.out.ids.below HBW.out).range (by omega) k hlk)
      have HLK : Hid ((d.txs[k]'hlk).length = 32) := HM.out.ids.each _ (List.getElem_mem _)
      have HTK := Lib.hid (take_snoc d.txs k hlk)
      have HME : Hid (d.txs[k]'hlk ∈ d.txs) := List.getElem_mem _
      generalize d.txs[k]'hlk = y at *
      have HYS : Hid ((idA y).size = 32) := by show _ = _; rw [idA_size, HLK.out]
      have HYL : Hid ((idA y).toList.length = 32) := by show _ = _; rw [Array.length_toList, HYS.out]
      have HNW := Lib.hid (box_new wr (idA zeros) 30)
      have HBR := Lib.hid (box_row wr (idA zeros) (idA y) 30)
      have HBB := Lib.hid (box_below wr (idA zeros) (idA y) 30)
      have HR3 := Lib.hid (Below.keepOld HBB.out HROW.out)
      have HB3 := Lib.hid (HBW.out.trans (HBB.out.mono HBW.out.size))
      have hd : decide ((k : Int) < (n : Int)) = true := decide_eq_true (by omega)
      have hq : ∀ w, (Op.equalIn 10000 30 (.agg (idA y)) (.agg (idA x))).run Try.prog w = .ok (y == x) w := fun w => eqI w y x HLK.out HX.out
      by_cases hyx : y = x
      · have HRES : Hid (d.txs.contains x = true) := by show _ = _; rw [List.contains_iff_mem, ← hyx]; exact HME.out
        have hb : (y == x) = true := by rw [beq_iff_eq]; exact hyx
        have HSW := Lib.hid hq
        clear hyx
        go_wp2_with (first
          | refine wpList_load_mid rfl 30 _ rfl b (o + k * 32) rfl (idA y).toList _ HRG.out Try.underlying30 rfl (infoI _ HYL.out) ?_
          | refine wpList_store_row rfl 30 _ _ rfl wr.heap.size (idA y) rfl rfl 30 (idA zeros) HNW.out (infoI _ HYS.out) (zeros_size.trans HYS.out.symm) (idA_one y) ?_
          | refine wpList_load_row rfl 30 _ rfl wr.heap.size rfl 30 (idA y) (0, 0) _ HBR.out Try.underlying30 rfl (infoI _ HYS.out) ?_
          | refine wpList_load_row rfl 30 _ rfl (w.heap.size + 1) rfl 30 (idA x) (0, 0) _ HR3.out Try.underlying30 rfl (infoI _ (by rw [idA_size, HX.out])) ?_)
        go_ret
        exact ⟨bret HRES.out.symm, HB3.out⟩
      · have hb : (y == x) = false := by rw [beq_eq_false_iff_ne]; exact hyx
        have HYX := Lib.hid hyx
        clear hyx
        go_wp2_with (first
          | refine wpList_load_mid rfl 30 _ rfl b (o + k * 32) rfl (idA y).toList _ HRG.out Try.underlying30 rfl (infoI _ HYL.out) ?_
          | refine wpList_store_row rfl 30 _ _ rfl wr.heap.size (idA y) rfl rfl 30 (idA zeros) HNW.out (infoI _ HYS.out) (zeros_size.trans HYS.out.symm) (idA_one y) ?_
          | refine wpList_load_row rfl 30 _ rfl wr.heap.size rfl 30 (idA y) (0, 0) _ HBR.out Try.underlying30 rfl (infoI _ HYS.out) ?_
          | refine wpList_load_row rfl 30 _ rfl (w.heap.size + 1) rfl 30 (idA x) (0, 0) _ HR3.out Try.underlying30 rfl (infoI _ (by rw [idA_size, HX.out])) ?_)
        go_roundw
        case rel =>
          refine ⟨k + 1, by omega, by go_num, ?_, HR3.out, HB3.out⟩
          rw [HTK.out, List.mem_append, List.mem_singleton]
          rintro (h | h)
          · exact HNOT.out h
          · exact HYX.out h.symm
        case measure => simp [intOf]; omega
    · have HRES : Hid (d.txs.contains x = false) := by
        show _ = _
        have h1 := HNOT.out
        rw [List.take_of_length_le (by rw [HC.out]; omega)] at h1
        cases hc : d.txs.contains x with
        | false => rfl
        | true => exact absurd (List.contains_iff_mem.1 hc) h1
      have hd : decide ((k : Int) < (n : Int)) = false := decide_eq_false (by omega)
      go_wp2_with fail
      go_ret
      exact ⟨bret HRES.out.symm, HBW.out⟩

/-! ### the reference's -/
set_option maxRecDepth 100000 in
theorem rHas_any (M : Array Value) (d : BlkD) (q : Option Addr) (n c : Nat) (x : List UInt8) (w : World) (hM : BlkAt w M d q n c) (hx : x.length = 32) (hn : n ≤ 1099511627776) :
    Calls Try.prog 22 #[.agg M, .agg (idA x)] w fun e w' => e = .returned (.bool (d.txs.contains x)) ∧ Below w.heap.size w w' := by
  have HM := Lib.hid hM
  have HX := Lib.hid hx
  have hcnt : d.txs.length = n := hM.ids.count
  have hcap := hM.ids.sl.le
  have hmax := hM.ids.sl.max
  have HC := Lib.hid hcnt
  clear hM hx hcnt
  go_enter Try.func22, Try.ntmps22
  have H2 := Lib.hid (two_allocs w (.cells M 33) (.cells (idA x) 30))
  go_wp2_with fail
  have HR := Lib.hid H2.out.2.1
  have HRM := Lib.hid H2.out.1
  have HB := Lib.hid H2.out.2.2.2
  generalize (w.alloc (.cells M 33)).alloc (.cells (idA x) 30) = w2 at *
  go_loopw [5] (fun j wr => ∃ k : Nat, k ≤ n ∧ j = .int .i64 k ∧ x ∉ d.txs.take k ∧ wr.heap[w.heap.size]? = some (.cells M 33 (0, 0)) ∧ wr.heap[w.heap.size + 1]? = some (.cells (idA x) 30 (0, 0)) ∧ Below w.heap.size w wr) (fun j _ => n - (intOf j).toNat)
  case atStart => exact ⟨0, by omega, rfl, by simp, HRM.out, HR.out, HB.out⟩
  case round =>
    obtain ⟨k, hk, rfl, hnot, hrm, hrow, hbw⟩ := hrel
    have HNOT := Lib.hid hnot
    have HRM := Lib.hid hrm
    have HROW := Lib.hid hrow
    have HBW := Lib.hid hbw
    have hc64 := (HM.out.parts hrm).2.2
    clear hnot hrm hrow hbw
    by_cases hlt : k < n
    · obtain ⟨b, o, rfl⟩ := HM.out.ids.sl.addr (by omega) (by omega)
      have hlk : k < d.txs.length := by rw [HC.out]; exact hlt
      have HRG := Lib.hid (range_grown ((HM.out.ids.below HBW.out).range (by omega) k hlk))
      have HLK : Hid ((d.txs[k]'hlk).length = 32) := HM.out.ids.each _ (List.getElem_mem _)
      have HTK := Lib.hid (take_snoc d.txs k hlk)
      have HME : Hid (d.txs[k]'hlk ∈ d.txs) := List.getElem_mem _
      generalize d.txs[k]'hlk = y at *
      have HYS : Hid ((idA y).size = 32) := by show _ = _; rw [idA_size, HLK.out]
      have HXS : Hid ((idA x).size = 32) := by show _ = _; rw [idA_size, HX.out]
      have HRX : Hid (∀ z : Grown wr, z.v.rangeAt (w.heap.size + 1) 0 (idA x).toList) := fun z => range_grown (fun j v hv => by rw [cell_of_row _ _ _ _ _ _ HROW.out, ← Array.getElem?_toList, Nat.zero_add]; exact hv) z
      have hd : decide ((k : Int) < (n : Int)) = true := decide_eq_true (by omega)
      have hq : ∀ w, (Op.equalIn 10000 30 (.agg (idA y)) (.agg (idA x))).run Try.prog w = .ok (y == x) w := fun w => eqI w y x HLK.out HX.out
      have hg64 := cell_grown hc64
      by_cases hyx : y = x
      · have HRES : Hid (d.txs.contains x = true) := by show _ = _; rw [List.contains_iff_mem, ← hyx]; exact HME.out
        have hb : (y == x) = true := by rw [beq_iff_eq]; exact hyx
        clear hyx
        go_wp2_with fail
        refine wp_region_grow (by kernel_rfl) (by kernel_rfl) ?_
        repeat (first
          | refine wpQuiet_load rfl 30 _ rfl b (o + k * 32) rfl (idA y) _ HRG.out Try.underlying30 rfl (infoI _ HYS.out) ?_
          | refine wpQuiet_load rfl 30 _ rfl (w.heap.size + 1) 0 rfl (idA x) _ HRX.out Try.underlying30 rfl (infoI _ HXS.out) ?_
          | quiet_step (fail))
        refine wpQuiet_nil ?_
        intro w3 hb3
        have HRM3 := Lib.hid (Below.keepOld hb3 HRM.out)
        have HR3 := Lib.hid (Below.keepOld hb3 HROW.out)
        have HB3 := Lib.hid (HBW.out.trans (hb3.mono HBW.out.size))
        clear hb3 hq hg64
        go_wp2_with fail
        go_ret
        exact ⟨bret HRES.out.symm, HB3.out⟩
      · have hb : (y == x) = false := by rw [beq_eq_false_iff_ne]; exact hyx
        have HYX := Lib.hid hyx
        clear hyx
        go_wp2_with fail
        refine wp_region_grow (by kernel_rfl) (by kernel_rfl) ?_
        repeat (first
          | refine wpQuiet_load rfl 30 _ rfl b (o + k * 32) rfl (idA y) _ HRG.out Try.underlying30 rfl (infoI _ HYS.out) ?_
          | refine wpQuiet_load rfl 30 _ rfl (w.heap.size + 1) 0 rfl (idA x) _ HRX.out Try.underlying30 rfl (infoI _ HXS.out) ?_
          | quiet_step (fail))
        refine wpQuiet_nil ?_
        intro w3 hb3
        have HRM3 := Lib.hid (Below.keepOld hb3 HRM.out)
        have HR3 := Lib.hid (Below.keepOld hb3 HROW.out)
        have HB3 := Lib.hid (HBW.out.trans (hb3.mono HBW.out.size))
        clear hb3 hq hg64
        go_wp2_with fail
        go_roundw
        case rel =>
          refine ⟨k + 1, by omega, by go_num, ?_, HRM3.out, HR3.out, HB3.out⟩
          rw [HTK.out, List.mem_append, List.mem_singleton]
          rintro (h | h)
          · exact HNOT.out h
          · exact HYX.out h.symm
        case measure => simp [intOf]; omega
    · have HRES : Hid (d.txs.contains x = false) := by
        show _ = _
        have h1 := HNOT.out
        rw [List.take_of_length_le (by rw [HC.out]; omega)] at h1
        cases hc : d.txs.contains x with
        | false => rfl
        | true => exact absurd (List.contains_iff_mem.1 hc) h1
      have hd : decide ((k : Int) < (n : Int)) = false := decide_eq_false (by omega)
      go_wp2_with fail
      go_ret
      exact ⟨bret HRES.out.symm, HBW.out⟩
end Go.Proofs.Ytepemfgiigceoaa.Blk

namespace Go.Proofs.Ytepemfgiigceoaa.Blk
open Go.RowKit Go.Mir Go.Mir.Parts

def zeros16 : List UInt8 := List.replicate 16 0
theorem zeroH (w : World) : (zeroValue 52).run Try.prog w = .ok (.agg (idA zeros16)) w := by kernel_rfl
theorem eqH (w : World) (a b : List UInt8) (ha : a.length = 16) (hb : b.length = 16) : (Op.equalIn 10000 52 (.agg (idA a)) (.agg (idA b))).run Try.prog w = .ok (a == b) w :=
  run_equal_ids w 9998 Try.underlying52 Try.underlying5 (by kernel_rfl) (by kernel_rfl) (by kernel_rfl) a b ha hb
theorem infoH (n : Nat) (h : n = 16) : (Try.prog.info? 52).map (·.size) = some n := by subst h; kernel_rfl
theorem range_take16 {w : World} {b : Nat} {x : List UInt8} {t : TypeId} {fr : Nat × Nat} (h : w.heap[b]? = some (.cells (idA x) t fr)) : w.rangeAt b 0 (idA (x.take 16)).toList := fun j v hv => by
  have hj := (List.getElem?_eq_some_iff.1 hv).1
  rw [idA_toList, bytesV_length, List.length_take] at hj
  rw [idA_toList, bytesV_get _ _ (by rw [List.length_take]; omega)] at hv
  rw [cell_of_row _ _ _ _ _ _ h, ← Array.getElem?_toList, idA_toList, Nat.zero_add, bytesV_get _ _ (by omega), ← hv]
  simp

set_option maxRecDepth 100000 in
theorem hintOf_any (x : List UInt8) (w : World) (hx : x.length = 32) :
    Calls Try.prog 45 #[.agg (idA x)] w fun e w' => e = .returned (.agg (idA (x.take 16))) ∧ Below w.heap.size w w' := by
  have HX := Lib.hid hx
  have hz := zeroH
  have HL : Hid ((x.take 16).length = 16) := by show _ = _; rw [List.length_take, hx]; rfl
  clear hx
  go_enter Try.func45, Try.ntmps45
  have H2 := Lib.hid (two_allocs w (.cells (idA x) 30) (.cells (idA zeros16) 52))
  have HRG := Lib.hid (range_take16 H2.out.1)
  have hsl : ∀ w0, (Instr.sliceAt 30 (.pointer (some ⟨w.heap.size, 0, none⟩)) none (some (.int .i64 16)) none).run Try.prog w0 = .ok (.slice (some ⟨w.heap.size, 0, none⟩) 16 32) w0 := fun w0 => run_sliceAt_upto w0 30 5 32 1 Try.underlying30 (by kernel_rfl) _ _ _ 16 rfl (by omega) (by omega)
  have har : ∀ w0, (Instr.arrayAt 52 (.slice (some ⟨w.heap.size, 0, none⟩) 16 32)).run Try.prog w0 = .ok (.pointer (some ⟨w.heap.size, 0, none⟩)) w0 := fun w0 => run_arrayAt w0 _ _ 16 _ _ _ Try.underlying52 (by omega)
  go_wp2_with (first
    | refine wpList_load_mid rfl 52 _ rfl w.heap.size 0 rfl (idA (x.take 16)).toList _ HRG.out Try.underlying52 rfl (infoH _ (by rw [Array.length_toList, idA_size, HL.out])) ?_
    | refine wpList_store_row rfl 52 _ _ rfl (w.heap.size + 1) (idA (x.take 16)) rfl rfl 52 (idA zeros16) H2.out.2.1 (infoH _ (by rw [idA_size, HL.out])) (by rw [idA_size, idA_size, HL.out]; rfl) (idA_one _) ?_)
  have HS := Lib.hid (setRow_heap _ _ _ (idA (x.take 16)) _ _ H2.out.2.1)
  refine bodyPost_ret (results_cell_row rfl _ _ _ _ _ _ _ rfl HS.out Try.underlying52 rfl (infoH _ (by rw [idA_size, HL.out]))) rfl ?_
  exact ⟨rfl, below_setRow H2.out.2.2.2 (Nat.le_succ _) _⟩
end Go.Proofs.Ytepemfgiigceoaa.Blk

namespace Go.Proofs.Ytepemfgiigceoaa.Blk
open Go.RowKit Go.Mir Go.Mir.Parts

theorem infoIds : (Try.prog.info? 30).map (fun i => (i.zero, i.size, i.bytes)) = some (some (.agg (idA zeros)), 32, 32) := by kernel_rfl
/-- what is left of ids gathered -/
def IdsP (ids : List (List UInt8)) (w : World) (e : Ending) (w' : World) : Prop := ∃ p c, e = .returned (.slice p ids.length c) ∧ Is w' p ids.length c 32 ids ∧ (∀ a, p = some a → w.heap.size ≤ a.block) ∧ Below w.heap.size w w'
theorem ids_of_own {w w' : World} {v : Value} {ids : List (List UInt8)} (h : w'.ownsRow w.heap.size 30 32 v ids.length (ids.flatMap bytesV)) (hl : ∀ x ∈ ids, x.length = 32) (hb : Below w.heap.size w w') : IdsP ids w (.returned v) w' := by
  obtain ⟨p, c, rfl, hs⟩ := own_sl h
  refine ⟨p, c, rfl, ⟨hs, hl, rfl⟩, fun a ha => ?_, hb⟩
  subst ha
  obtain ⟨g, cap, e, hg, _⟩ := own_some h (by simp)
  cases e; exact hg
theorem made_id (w : World) (y : List UInt8) (M : Array Value) (t : TypeId) (hM : M.toList = bytesV y) (hy : y.length = 32) : Sl (w.alloc (.cells M t)) (some ⟨w.heap.size, 0, none⟩) 1 1 32 (bytesV y) :=
  ⟨by rw [bytesV_length, hy], Nat.le_refl _, by omega, fun h => (by cases h), fun a ha j u hu => by
    obtain rfl := Option.some.inj ha
    rw [add_none, cell_of_row _ _ _ _ _ _ (heap_alloc_last _ _), ← Array.getElem?_toList, hM, Nat.zero_add]; exact hu⟩
theorem filter_snoc (f : List UInt8 → Bool) (l : List (List UInt8)) (k : Nat) (h : k < l.length) : (l.take (k + 1)).filter f = (l.take k).filter f ++ if f l[k] then [l[k]] else [] := by
  rw [take_snoc l k h, List.filter_append]
  cases hf : f l[k] <;> simp [hf]
/-- what the call owns lies apart from a row of another type -/
theorem own_ne_cells {w : World} {base e size n : Nat} {v : Value} {xs : List Value} {k : Nat} {M : Array Value} {t : TypeId} {fr : Nat × Nat} (h : w.ownsRow base e size v n xs) (hk : w.heap[k]? = some (.cells M t fr)) (hne : t ≠ e) : ∀ i, v.ownBlock = some i → ¬ i = k := by
  intro i hi e1
  subst e1
  rcases h.2 with ⟨rfl, _⟩ | ⟨g, cap, cur, rfl, _, hg, _⟩
  · simp [Value.ownBlock] at hi
  · simp [Value.ownBlock] at hi
    subst hi
    rw [hk] at hg; cases hg; exact hne rfl
/-- which ids have a hint -/
def hintedL (h : List UInt8) (l : List (List UInt8)) : List (List UInt8) := l.filter fun y => y.take 16 == h

set_option maxRecDepth 100000 in
set_option maxHeartbeats 400000 in
theorem hinted_any (M : Array Value) (d : BlkD) (q : Option Addr) (n c : Nat) (h : List UInt8) (w : World) (hM : BlkAt w M d q n c) (hh : h.length = 16) (hn : n ≤ 1099511627776) :
    Calls Try.prog 24 #[.agg M, .agg (idA h)] w (IdsP (hintedL h d.txs) w) := by
  have HM := Lib.hid hM
  have HH := Lib.hid hh
  have hz := zeroI
  have hcnt : d.txs.length = n := hM.ids.count
  have hcap := hM.ids.sl.le
  have hmax := hM.ids.sl.max
  have HC := Lib.hid hcnt
  clear hM hh hcnt
  go_enter Try.func24, Try.ntmps24
  have H2 := Lib.hid (two_allocs w (.cells M 33) (.cells (idA h) 52))
  have hc64 := (HM.out.parts H2.out.1).2.2
  go_wp2_with fail
  have HR := Lib.hid H2.out.2.1
  have HB := Lib.hid H2.out.2.2.2
  generalize (w.alloc (.cells M 33)).alloc (.cells (idA h) 52) = w2 at *
  clear hc64
  go_loopw [5, 11] (fun v j wr => ∃ (k : Nat) (p : Option Addr) (m cc : Nat), k ≤ n ∧ j = .int .i64 k ∧ v = .slice p m cc ∧ m = (hintedL h (d.txs.take k)).length ∧ wr.ownsRow w.heap.size 30 32 v m ((hintedL h (d.txs.take k)).flatMap bytesV) ∧ wr.heap[w.heap.size + 1]? = some (.cells (idA h) 52 (0, 0)) ∧ Below w.heap.size w wr) (fun _ j _ => n - (intOf j).toNat)
  case atStart => exact ⟨0, none, 0, 0, by omega, rfl, rfl, rfl, ⟨rfl, .inl ⟨rfl, rfl⟩⟩, HR.out, HB.out⟩
  case round =>
    obtain ⟨k, p, m, cc, hk, rfl, rfl, hm, hown, hrow, hbw⟩ := hrel
    have HMM := Lib.hid hm
    have HOW := Lib.hid hown
    have HROW := Lib.hid hrow
    have HBW := Lib.hid hbw
    have hmle : m ≤ n := by
      rw [hm]
      have h1 := List.length_filter_le (fun y => y.take 16 == h) (d.txs.take k)
      have h2 : (d.txs.take k).length ≤ k := by rw [List.length_take]; omega
      unfold hintedL; omega
    clear hown hrow hbw hm
    by_cases hlt : k < n
    · obtain ⟨b, o, rfl⟩ := HM.out.ids.sl.addr (by omega) (by omega)
      have hlk : k < d.txs.length := by rw [HC.out]; exact hlt
      have HRG := Lib.hid ((HM.out.ids.below HBW.out).range (by omega) k hlk)
      have HLK : Hid ((d.txs[k]'hlk).length = 32) := HM.out.ids.each _ (List.getElem_mem _)
      have HFS : Hid (hintedL h (d.txs.take (k + 1)) = hintedL h (d.txs.take k) ++ if (d.txs[k]'hlk).take 16 == h then [d.txs[k]'hlk] else []) := filter_snoc _ _ k hlk
      generalize d.txs[k]'hlk = y at *
      have HYS : Hid ((idA y).size = 32) := by show _ = _; rw [idA_size, HLK.out]
      have HYL : Hid ((idA y).toList.length = 32) := by show _ = _; rw [Array.length_toList, HYS.out]
      have HNW := Lib.hid (box_new wr (idA zeros) 30)
      have HBR := Lib.hid (box_row wr (idA zeros) (idA y) 30)
      have HBB := Lib.hid (box_below wr (idA zeros) (idA y) 30)
      have HSZ := Lib.hid (box_size wr (idA zeros) (idA y) 30)
      have HR3 := Lib.hid (Below.keepOld HBB.out HROW.out)
      have HB3 := Lib.hid (HBW.out.trans (HBB.out.mono HBW.out.size))
      have HO3 := Lib.hid (own_touch HOW.out (Turns.of_below (S := fun _ => False) HBB.out) (fun _ _ h => h))
      have hd : decide ((k : Int) < (n : Int)) = true := decide_eq_true (by omega)
      have hq : ∀ w, (Op.equalIn 10000 52 (.agg (idA (y.take 16))) (.agg (idA h))).run Try.prog w = .ok (y.take 16 == h) w := fun w => eqH w _ h (by rw [List.length_take, HLK.out]; rfl) HH.out
      by_cases hyx : (y.take 16 == h) = true
      · go_wp2_with (first
          | refine wpList_load_mid rfl 30 _ rfl b (o + k * 32) rfl (idA y).toList _ HRG.out Try.underlying30 rfl (infoI _ HYL.out) ?_
          | refine wpList_store_row rfl 30 _ _ rfl wr.heap.size (idA y) rfl rfl 30 (idA zeros) HNW.out (infoI _ HYS.out) (zeros_size.trans HYS.out.symm) (idA_one y) ?_)
        generalize (wr.alloc (.cells (idA zeros) 30)).setRow wr.heap.size (idA y) = w3 at *
        have HG1 : Hid (∀ z : Grown w3, z.v.rangeAt wr.heap.size 0 (idA y).toList) := fun z => range_grown (fun j v hv => by rw [cell_of_row _ _ _ _ _ _ HBR.out, ← Array.getElem?_toList, Nat.zero_add]; exact hv) z
        have HG2 : Hid (∀ z : Grown w3, z.v.rangeAt (w.heap.size + 1) 0 (idA h).toList) := fun z => range_grown (fun j v hv => by rw [cell_of_row _ _ _ _ _ _ HR3.out, ← Array.getElem?_toList, Nat.zero_add]; exact hv) z
        refine wp_region_grow (by kernel_rfl) (by kernel_rfl) ?_
        repeat (first
          | refine wpQuiet_load rfl 30 _ rfl wr.heap.size 0 rfl (idA y) _ HG1.out Try.underlying30 rfl (infoI _ HYS.out) ?_
          | refine wpQuiet_load rfl 52 _ rfl (w.heap.size + 1) 0 rfl (idA h) _ HG2.out Try.underlying52 rfl (infoH _ (by rw [idA_size, HH.out])) ?_
          | quiet_step ((first | (go_at_call 45; exact Calls.grow_of (hintOf_any y _ HLK.out)))))
        refine wpQuiet_nil ?_
        intro w4 hb4
        have HR4 := Lib.hid (Below.keepOld hb4 HR3.out)
        have HB4 := Lib.hid (HB3.out.trans (hb4.mono HB3.out.size))
        have HBR4 := Lib.hid (Below.keepOld hb4 HBR.out)
        have HO4 := Lib.hid (own_touch HO3.out (Turns.of_below (S := fun _ => False) hb4) (fun _ _ h => h))
        have HS4 := Lib.hid hb4.size
        clear hb4 hq
        have HSL : Hid (Sl (w4.alloc (.cells (idA y) 30)) (some ⟨w4.heap.size, 0, none⟩) 1 1 32 (bytesV y)) := made_id w4 y _ _ (idA_toList y) HLK.out
        have HO5 : Hid ((w4.alloc (.cells (idA y) 30)).ownsRow w.heap.size 30 32 (.slice p m cc) m ((hintedL h (d.txs.take k)).flatMap bytesV)) := HO4.out.alloc _
        have HSZ4 : Hid (w.heap.size ≤ (w4.alloc (.cells (idA y) 30)).heap.size) := by have := HB4.out.size; show _ ≤ _; simp; omega
        go_wp2_with (first
          | refine wpList_load_row rfl 30 _ rfl wr.heap.size rfl 30 (idA y) (0, 0) _ HBR4.out Try.underlying30 rfl (infoI _ HYS.out) ?_
          | refine wpList_buildOne rfl 31 30 _ rfl (idA y) rfl 32 Try.underlying31 (by kernel_rfl) (by omega) (by omega) HYS.out ?_
          | (at_builtin; refine wpList_append_nx rfl _ _ 31 rfl (base := w.heap.size) Try.underlying31 infoIds (by rw [show (Value.agg (idA zeros)).cells = idA zeros from rfl]; exact zeros_size) (by omega) rfl HO5.out rfl HSL.out (bytesV_one _) (by omega) HSZ4.out ?_))
        intro p' c' w5 hown hg hnx hne
        have hr5 : w5.heap[w.heap.size + 1]? = some (.cells (idA h) 52 (0, 0)) := by
          have h1 := block_old (.cells (idA y) 30) HR4.out
          rw [hg.block _ (Array.getElem?_eq_some_iff.1 h1).1 (fun e => own_ne_cells HOW.out HROW.out (by decide) _ e.symm rfl)]
          exact h1
        have hb5 : Below w.heap.size w w5 := (HB4.out.alloc HB4.out.size _).grown hg HSZ4.out (fun i hi => (HO5.out.lt i hi).1)
        have HO6 := Lib.hid hown
        have HR5 := Lib.hid hr5
        have HB5 := Lib.hid hb5
        have HT : Hid (hintedL h (d.txs.take (k + 1)) = hintedL h (d.txs.take k) ++ [y]) := by show _ = _; rw [HFS.out, if_pos hyx]
        clear hown hg hnx hne hr5 hb5
        go_wp2_with fail
        go_roundw
        case rel =>
          refine ⟨k + 1, p', m + 1, c', by omega, by go_num, rfl, by rw [HT.out, List.length_append, ← HMM.out]; rfl, ?_, HR5.out, HB5.out⟩
          have := HO6.out
          rw [HT.out, List.flatMap_append]
          simpa using this
        case measure => simp [intOf]; omega
      · have hyx' : (y.take 16 == h) = false := by simpa using hyx
        have HT : Hid (hintedL h (d.txs.take (k + 1)) = hintedL h (d.txs.take k)) := by show _ = _; rw [HFS.out, hyx']; simp
        clear hyx
        go_wp2_with (first
          | refine wpList_load_mid rfl 30 _ rfl b (o + k * 32) rfl (idA y).toList _ HRG.out Try.underlying30 rfl (infoI _ HYL.out) ?_
          | refine wpList_store_row rfl 30 _ _ rfl wr.heap.size (idA y) rfl rfl 30 (idA zeros) HNW.out (infoI _ HYS.out) (zeros_size.trans HYS.out.symm) (idA_one y) ?_)
        generalize (wr.alloc (.cells (idA zeros) 30)).setRow wr.heap.size (idA y) = w3 at *
        have HG1 : Hid (∀ z : Grown w3, z.v.rangeAt wr.heap.size 0 (idA y).toList) := fun z => range_grown (fun j v hv => by rw [cell_of_row _ _ _ _ _ _ HBR.out, ← Array.getElem?_toList, Nat.zero_add]; exact hv) z
        have HG2 : Hid (∀ z : Grown w3, z.v.rangeAt (w.heap.size + 1) 0 (idA h).toList) := fun z => range_grown (fun j v hv => by rw [cell_of_row _ _ _ _ _ _ HR3.out, ← Array.getElem?_toList, Nat.zero_add]; exact hv) z
        refine wp_region_grow (by kernel_rfl) (by kernel_rfl) ?_
        repeat (first
          | refine wpQuiet_load rfl 30 _ rfl wr.heap.size 0 rfl (idA y) _ HG1.out Try.underlying30 rfl (infoI _ HYS.out) ?_
          | refine wpQuiet_load rfl 52 _ rfl (w.heap.size + 1) 0 rfl (idA h) _ HG2.out Try.underlying52 rfl (infoH _ (by rw [idA_size, HH.out])) ?_
          | quiet_step ((first | (go_at_call 45; exact Calls.grow_of (hintOf_any y _ HLK.out)))))
        refine wpQuiet_nil ?_
        intro w4 hb4
        have HR4 := Lib.hid (Below.keepOld hb4 HR3.out)
        have HB4 := Lib.hid (HB3.out.trans (hb4.mono HB3.out.size))
        have HBR4 := Lib.hid (Below.keepOld hb4 HBR.out)
        have HO4 := Lib.hid (own_touch HO3.out (Turns.of_below (S := fun _ => False) hb4) (fun _ _ h => h))
        have HS4 := Lib.hid hb4.size
        clear hb4 hq
        go_wp2_with fail
        go_roundw
        case rel => exact ⟨k + 1, p, m, cc, by omega, by go_num, rfl, by rw [HT.out]; exact HMM.out, by rw [HT.out]; exact HO4.out, HR4.out, HB4.out⟩
        case measure => simp [intOf]; omega
    · have HE : Hid (hintedL h (d.txs.take k) = hintedL h d.txs) := by show _ = _; rw [List.take_of_length_le (by rw [HC.out]; omega)]
      have HAL : Hid (∀ x ∈ hintedL h d.txs, x.length = 32) := fun x hx => HM.out.ids.each x (List.mem_filter.1 hx).1
      have HFIN : Hid (IdsP (hintedL h d.txs) w (.returned (.slice p m cc)) wr) := by
        refine ids_of_own ?_ HAL.out HBW.out
        have h1 := HOW.out
        rw [HMM.out, HE.out] at h1
        rw [HMM.out, HE.out]
        exact h1
      have hd : decide ((k : Int) < (n : Int)) = false := decide_eq_false (by omega)
      go_wp2_with fail
      go_ret
      exact HFIN.out
end Go.Proofs.Ytepemfgiigceoaa.Blk

namespace Go.Proofs.Ytepemfgiigceoaa.Blk
open Go.RowKit Go.Mir Go.Mir.Parts

/-- the first bytes, as far as they are filled -/
def partN (N : Nat) (b : List UInt8) (k : Nat) : List UInt8 := b.take k ++ List.replicate (N - k) 0
theorem partN_row {N : Nat} {M : Array Value} {b : List UInt8} {k : Nat} (hM : M.toList = bytesV (partN N b k)) (h : k < b.length) (hN : k < N) : (M.setIfInBounds k (.int .u8 (b[k].toNat : Int))).toList = bytesV (partN N b (k + 1)) := by
  have key : (partN N b k).set k b[k] = partN N b (k + 1) := by
    unfold partN
    have hl : (b.take k).length = k := by rw [List.length_take]; omega
    rw [List.set_append_right _ _ (by omega), hl, Nat.sub_self, show N - k = (N - (k + 1)) + 1 by omega, List.replicate_succ, List.set_cons_zero, take_snoc b k h, List.append_assoc]; rfl
  rw [Array.toList_setIfInBounds, hM, ← key]
  simp [bytesV, List.map_set]
theorem three_allocs (w : World) (o o2 o3 : Obj) : (((w.alloc o).alloc o2).alloc o3).heap[w.heap.size]? = some o ∧ (((w.alloc o).alloc o2).alloc o3).heap[w.heap.size + 1]? = some o2 ∧ (((w.alloc o).alloc o2).alloc o3).heap[w.heap.size + 2]? = some o3 ∧ Below w.heap.size w (((w.alloc o).alloc o2).alloc o3) := by
  have h := two_allocs w o o2
  refine ⟨block_old _ h.1, block_old _ h.2.1, ?_, h.2.2.2.alloc (by have := h.2.2.1; omega) _⟩
  have := heap_alloc_last ((w.alloc o).alloc o2) o3
  rwa [h.2.2.1] at this

set_option maxRecDepth 100000 in
theorem rHint_any (x : List UInt8) (w : World) (hx : x.length = 32) :
    Calls Try.prog 46 #[.agg (idA x)] w fun e w' => e = .returned (.agg (idA (x.take 16))) ∧ Below w.heap.size w w' := by
  have HX := Lib.hid hx
  have hz := zeroH
  have HL : Hid ((x.take 16).length = 16) := by show _ = _; rw [List.length_take, hx]; rfl
  clear hx
  go_enter Try.func46, Try.ntmps46
  go_wp2_with fail
  have H3 := Lib.hid (three_allocs w (.cells (idA x) 30) (.cells (idA zeros16) 52) (.cells (idA zeros16) 52))
  generalize ((w.alloc (.cells (idA x) 30)).alloc (.cells (idA zeros16) 52)).alloc (.cells (idA zeros16) 52) = w3 at *
  go_loopw [4] (fun j wr => ∃ (k : Nat) (M : Array Value), k ≤ 16 ∧ j = .int .i64 k ∧ M.toList = bytesV (partN 16 x k) ∧ M.size = 16 ∧ wr.heap[w.heap.size]? = some (.cells (idA x) 30 (0, 0)) ∧ wr.heap[w.heap.size + 1]? = some (.cells (idA zeros16) 52 (0, 0)) ∧ wr.heap[w.heap.size + 2]? = some (.cells M 52 (0, 0)) ∧ Below w.heap.size w wr) (fun j _ => 16 - (intOf j).toNat)
  case atStart => exact ⟨0, idA zeros16, by omega, rfl, by rw [idA_toList]; rfl, rfl, H3.out.1, H3.out.2.1, H3.out.2.2.1, H3.out.2.2.2⟩
  case round =>
    obtain ⟨k, M, hk, rfl, hM, hMs, hr0, hr1, hr2, hbw⟩ := hrel
    have HM := Lib.hid hM
    have HMS := Lib.hid hMs
    have HR0 := Lib.hid hr0
    have HR1 := Lib.hid hr1
    have HR2 := Lib.hid hr2
    have HBW := Lib.hid hbw
    by_cases hlt : k < 16
    · have hkx : k < x.length := by rw [HX.out]; omega
      have hc : wr.cell? ⟨w.heap.size, k, none⟩ = some (.int .u8 ((x[k]'hkx).toNat : Int)) := by rw [cell_of_row _ _ _ _ _ _ hr0, ← Array.getElem?_toList, idA_toList, bytesV_get _ _ hkx]
      obtain ⟨u, hu⟩ : ∃ u, wr.cell? ⟨w.heap.size + 2, k, none⟩ = some u := ⟨_, (cell_of_row _ _ _ _ _ _ hr2).trans (Array.getElem?_eq_getElem (by omega))⟩
      have hf : wr.frozen? ⟨w.heap.size + 2, k, none⟩ = false := frozen_of_row _ _ _ _ _ hr2
      have hd : decide ((k : Int) < 16) = true := decide_eq_true (by omega)
      clear hM hMs hr0 hr1 hr2 hbw
      go_wp2_with fail
      go_roundw
      case rel =>
        have ht := (Turns.refl (fun i => i = w.heap.size + 2) wr).setCell (p := ⟨w.heap.size + 2, k, none⟩) (fun _ => rfl) (.int .u8 ((x[k]'hkx).toNat : Int))
        exact ⟨k + 1, _, by omega, by go_num, partN_row HM.out hkx hlt, by rw [Array.size_setIfInBounds]; exact HMS.out, ht.keep HR0.out (by omega), ht.keep HR1.out (by omega), heap_setCell_same _ _ _ _ _ _ HR2.out, HBW.out.setCell (Nat.le_add_right _ 2) _⟩
      case measure => simp [intOf]; omega
    · obtain rfl : k = 16 := by omega
      have HME : Hid (M = idA (x.take 16)) := by
        show _ = _
        rw [← Array.toArray_toList (xs := M), hM]
        unfold idA partN
        simp
      rw [HME.out] at hr2
      have HR3 := Lib.hid hr2
      clear hM hMs hr0 hr1 hr2 hbw
      go_wp2_with (first
        | refine wpList_load_row rfl 52 _ rfl (w.heap.size + 2) rfl 52 (idA (x.take 16)) (0, 0) _ HR3.out Try.underlying52 rfl (infoH _ (by rw [idA_size, HL.out])) ?_
        | refine wpList_store_row rfl 52 _ _ rfl (w.heap.size + 1) (idA (x.take 16)) rfl rfl 52 (idA zeros16) HR1.out (infoH _ (by rw [idA_size, HL.out])) (by rw [idA_size, idA_size, HL.out]; rfl) (idA_one _) ?_)
      have HS := Lib.hid (setRow_heap _ _ _ (idA (x.take 16)) _ _ HR1.out)
      refine bodyPost_ret (results_cell_row rfl _ _ _ _ _ _ _ rfl HS.out Try.underlying52 rfl (infoH _ (by rw [idA_size, HL.out]))) rfl ?_
      exact ⟨rfl, below_setRow HBW.out (Nat.le_succ _) _⟩

theorem few_any (M : Array Value) (d : BlkD) (q : Option Addr) (n c : Nat) (w : World) (hM : BlkAt w M d q n c) :
    Calls Try.prog 19 #[.agg M] w fun e w' => e = .returned (.bool (decide (n ≤ 100))) ∧ Below w.heap.size w w' := by
  have hc64 := (hM.parts (heap_alloc_last w (.cells M 33))).2.2
  have HB := Lib.hid (Below.allocs w (.cells M 33))
  have hcap := hM.ids.sl.le
  have hmax := hM.ids.sl.max
  clear hM
  go_enter Try.func19, Try.ntmps19
  go_wp2
  go_ret
  refine ⟨bret ?_, HB.out⟩
  rw [Bool.eq_iff_iff, decide_eq_true_eq, decide_eq_true_eq]; omega

theorem child_any (M M2 : Array Value) (d d2 : BlkD) (q q2 : Option Addr) (n c n2 c2 : Nat) (w : World) (hM : BlkAt w M d q n c) (hM2 : BlkAt w M2 d2 q2 n2 c2) :
    Calls Try.prog 26 #[.agg M, .agg M2] w fun e w' => e = .returned (.bool (d2.par == d.hash)) ∧ Below w.heap.size w w' := by
  have H2 := Lib.hid (two_allocs w (.cells M 33) (.cells M2 33))
  have HP := Lib.hid (hM.parts H2.out.1)
  have HP2 := Lib.hid (hM2.parts H2.out.2.1)
  have HA : Hid (d.hash.length = 32 ∧ d2.par.length = 32) := ⟨hM.hlen, hM2.plen⟩
  have hq : ∀ w, (Op.equalIn 10000 30 (.agg (idA d2.par)) (.agg (idA d.hash))).run Try.prog w = .ok (d2.par == d.hash) w := fun w => eqI w _ _ HA.out.2 HA.out.1
  clear hM hM2
  go_enter Try.func26, Try.ntmps26
  go_wp2_with (first
    | refine wpList_load_mid rfl 30 _ rfl (w.heap.size + 1) 32 rfl (idA d2.par).toList _ HP2.out.2.1 Try.underlying30 rfl (infoI _ (by rw [Array.length_toList, idA_size, HA.out.2])) ?_
    | refine wpList_load_mid rfl 30 _ rfl w.heap.size 0 rfl (idA d.hash).toList _ HP.out.1 Try.underlying30 rfl (infoI _ (by rw [Array.length_toList, idA_size, HA.out.1])) ?_)
  go_ret
  exact ⟨rfl, H2.out.2.2.2⟩
end Go.Proofs.Ytepemfgiigceoaa.Blk

namespace Go.Proofs.Ytepemfgiigceoaa.Blk
open Go.RowKit Go.Mir Go.Mir.Parts

theorem bretd {a b : Bool} (h : a = b) : Ending.returned (.bool a) = .returned (.bool b) := by rw [h]
theorem range_grown_row {w : World} {b : Nat} {A : Array Value} {t : TypeId} {fr : Nat × Nat} (h : w.heap[b]? = some (.cells A t fr)) (z : Grown w) : z.v.rangeAt b 0 A.toList :=
  range_grown (fun j v hv => by rw [cell_of_row _ _ _ _ _ _ h, ← Array.getElem?_toList, Nat.zero_add]; exact hv) z
theorem take_eq_step {a b : List (List UInt8)} {k : Nat} (h : a.take k = b.take k) (ha : k < a.length) (hb : k < b.length) (e : a[k] = b[k]) : a.take (k + 1) = b.take (k + 1) := by
  rw [take_snoc a k ha, take_snoc b k hb, h, e]

set_option maxRecDepth 100000 in
set_option maxHeartbeats 400000 in
theorem idsSame_any (p p2 : Option Addr) (n c n2 c2 : Nat) (la lb : List (List UInt8)) (w : World) (hA : Is w p n c 32 la) (hB : Is w p2 n2 c2 32 lb) :
    Calls Try.prog 23 #[.slice p n c, .slice p2 n2 c2] w fun e w' => e = .returned (.bool (la == lb)) ∧ Below w.heap.size w w' := by
  have HA := Lib.hid hA
  have HB := Lib.hid hB
  have ha := hA.sl.le
  have hb := hB.sl.le
  have ham := hA.sl.max
  have hbm := hB.sl.max
  obtain rfl : la.length = n := hA.count
  obtain rfl : lb.length = n2 := hB.count
  clear hA hB
  by_cases hl : la.length = lb.length
  · have hlen : ((la.length : Int) == (lb.length : Int)) = true := by rw [beq_iff_eq]; omega
    have hlen2 : ((la.length : Int) != (lb.length : Int)) = false := by rw [bne_eq_false_iff_eq]; omega
    have HL := Lib.hid hl
    clear hl
    go_enter Try.func23, Try.ntmps23
    go_wp2_with fail
    go_loopw [5] (fun j wr => ∃ k : Nat, k ≤ la.length ∧ j = .int .i64 k ∧ la.take k = lb.take k ∧ Below w.heap.size w wr) (fun j _ => la.length - (intOf j).toNat)
    case atStart => exact ⟨0, by omega, rfl, rfl, Below.refl _ _⟩
    case round =>
      obtain ⟨k, hk, rfl, heq, hbw⟩ := hrel
      have HEQ := Lib.hid heq
      have HBW := Lib.hid hbw
      clear heq hbw
      by_cases hlt : k < la.length
      · have hlt2 : k < lb.length := by rw [← HL.out]; exact hlt
        obtain ⟨b, o, rfl⟩ := HA.out.sl.addr (by omega) (by omega)
        obtain ⟨b2, o2, rfl⟩ := HB.out.sl.addr (by omega) (by omega)
        have HRA := Lib.hid (range_grown ((HA.out.below HBW.out).range (by omega) k hlt))
        have HRB := Lib.hid (range_grown ((HB.out.below HBW.out).range (by omega) k hlt2))
        have HLA : Hid ((la[k]'hlt).length = 32) := HA.out.each _ (List.getElem_mem _)
        have HLB : Hid ((lb[k]'hlt2).length = 32) := HB.out.each _ (List.getElem_mem _)
        have HST : Hid (la[k]'hlt = lb[k]'hlt2 → la.take (k + 1) = lb.take (k + 1)) := fun e => take_eq_step HEQ.out hlt hlt2 e
        have HNE : Hid (¬ la[k]'hlt = lb[k]'hlt2 → (la == lb) = false) := fun h => by
          rw [beq_eq_false_iff_ne]; intro e; subst e; exact h rfl
        generalize la[k]'hlt = x at *
        generalize lb[k]'hlt2 = y at *
        have hq : ∀ w, (Op.equalIn 10000 30 (.agg (idA x)) (.agg (idA y))).run Try.prog w = .ok (x == y) w := fun w => eqI w _ _ HLA.out HLB.out
        have hd : decide ((k : Int) < (la.length : Int)) = true := decide_eq_true (by omega)
        by_cases hxy : x = y
        · have hbq : (x == y) = true := by rw [beq_iff_eq]; exact hxy
          have HN := Lib.hid (HST.out hxy)
          clear hxy
          go_wp2_with fail
          refine wp_region_grow (by kernel_rfl) (by kernel_rfl) ?_
          repeat (first
            | refine wpQuiet_load rfl 30 _ rfl b (o + k * 32) rfl (idA x) _ HRA.out Try.underlying30 rfl (infoI _ (by rw [idA_size, HLA.out])) ?_
            | refine wpQuiet_load rfl 30 _ rfl b2 (o2 + k * 32) rfl (idA y) _ HRB.out Try.underlying30 rfl (infoI _ (by rw [idA_size, HLB.out])) ?_
            | quiet_step (fail))
          refine wpQuiet_nil ?_
          intro w3 hb3
          have HB3 := Lib.hid (HBW.out.trans (hb3.mono HBW.out.size))
          clear hb3 hq
          go_wp2_with fail
          go_roundw
          case rel => exact ⟨k + 1, by omega, by go_num, HN.out, HB3.out⟩
          case measure => simp [intOf]; omega
        · have hbq : (x == y) = false := by rw [beq_eq_false_iff_ne]; exact hxy
          have HN := Lib.hid (HNE.out hxy)
          clear hxy
          go_wp2_with fail
          refine wp_region_grow (by kernel_rfl) (by kernel_rfl) ?_
          repeat (first
            | refine wpQuiet_load rfl 30 _ rfl b (o + k * 32) rfl (idA x) _ HRA.out Try.underlying30 rfl (infoI _ (by rw [idA_size, HLA.out])) ?_
            | refine wpQuiet_load rfl 30 _ rfl b2 (o2 + k * 32) rfl (idA y) _ HRB.out Try.underlying30 rfl (infoI _ (by rw [idA_size, HLB.out])) ?_
            | quiet_step (fail))
          refine wpQuiet_nil ?_
          intro w3 hb3
          have HB3 := Lib.hid (HBW.out.trans (hb3.mono HBW.out.size))
          clear hb3 hq
          go_wp2_with fail
          go_ret
          exact ⟨bretd HN.out.symm, HB3.out⟩
      · have HR : Hid ((la == lb) = true) := by
          show _ = _
          have h1 := HEQ.out
          rw [List.take_of_length_le (by omega), List.take_of_length_le (by rw [← HL.out]; omega)] at h1
          rw [beq_iff_eq]; exact h1
        have hd : decide ((k : Int) < (la.length : Int)) = false := decide_eq_false (by omega)
        go_wp2_with fail
        go_ret
        exact ⟨bretd HR.out.symm, HBW.out⟩
  · have hlen : ((la.length : Int) == (lb.length : Int)) = false := by rw [beq_eq_false_iff_ne]; omega
    have HR : Hid ((la == lb) = false) := by
      show _ = _
      rw [beq_eq_false_iff_ne]; intro e; exact hl (by rw [e])
    clear hl
    go_enter Try.func23, Try.ntmps23
    go_wp2_with fail
    go_ret
    exact ⟨bretd HR.out.symm, Below.refl _ _⟩

/-- are two blocks the same? -/
def sameB (d d2 : BlkD) : Bool := d.hash == d2.hash && d.par == d2.par && d.txs == d2.txs
set_option maxRecDepth 100000 in
set_option maxHeartbeats 400000 in
theorem rSame_any (M M2 : Array Value) (d d2 : BlkD) (q q2 : Option Addr) (n c n2 c2 : Nat) (w : World) (hM : BlkAt w M d q n c) (hM2 : BlkAt w M2 d2 q2 n2 c2) :
    Calls Try.prog 29 #[.agg M, .agg M2] w fun e w' => e = .returned (.bool (sameB d d2)) ∧ Below w.heap.size w w' := by
  have H2 := Lib.hid (two_allocs w (.cells M 33) (.cells M2 33))
  have HP := Lib.hid (hM.parts H2.out.1)
  have HP2 := Lib.hid (hM2.parts H2.out.2.1)
  have HA : Hid (d.hash.length = 32 ∧ d.par.length = 32 ∧ d2.hash.length = 32 ∧ d2.par.length = 32) := ⟨hM.hlen, hM.plen, hM2.hlen, hM2.plen⟩
  have HI := Lib.hid (hM.ids.below H2.out.2.2.2)
  have HI2 := Lib.hid (hM2.ids.below H2.out.2.2.2)
  have hc := HP.out.2.2
  have hc2 := HP2.out.2.2
  have hq : ∀ w, (Op.equalIn 10000 30 (.agg (idA d.hash)) (.agg (idA d2.hash))).run Try.prog w = .ok (d.hash == d2.hash) w := fun w => eqI w _ _ HA.out.1 HA.out.2.2.1
  have hq2 : ∀ w, (Op.equalIn 10000 30 (.agg (idA d.par)) (.agg (idA d2.par))).run Try.prog w = .ok (d.par == d2.par) w := fun w => eqI w _ _ HA.out.2.1 HA.out.2.2.2
  clear hM hM2
  by_cases h1 : d.hash = d2.hash
  · have hb1 : (d.hash == d2.hash) = true := by rw [beq_iff_eq]; exact h1
    by_cases h2 : d.par = d2.par
    · have hb2 : (d.par == d2.par) = true := by rw [beq_iff_eq]; exact h2
      have HR : Hid (sameB d d2 = (d.txs == d2.txs)) := by show _ = _; unfold sameB; rw [hb1, hb2]; rfl
      have HB1 := Lib.hid hb1
      clear h1 h2
      go_enter Try.func29, Try.ntmps29
      go_wp2_with (first
        | refine wpList_load_mid rfl 30 _ rfl w.heap.size 0 rfl (idA d.hash).toList _ HP.out.1 Try.underlying30 rfl (infoI _ (by rw [Array.length_toList, idA_size, HA.out.1])) ?_
        | refine wpList_load_mid rfl 30 _ rfl (w.heap.size + 1) 0 rfl (idA d2.hash).toList _ HP2.out.1 Try.underlying30 rfl (infoI _ (by rw [Array.length_toList, idA_size, HA.out.2.2.1])) ?_
        | refine wpList_unguard rfl (wpList_load_mid rfl 30 _ rfl w.heap.size 32 rfl (idA d.par).toList _ HP.out.2.1 Try.underlying30 rfl (infoI _ (by rw [Array.length_toList, idA_size, HA.out.2.1])) ?_)
        | refine wpList_unguard rfl (wpList_load_mid rfl 30 _ rfl (w.heap.size + 1) 32 rfl (idA d2.par).toList _ HP2.out.2.1 Try.underlying30 rfl (infoI _ (by rw [Array.length_toList, idA_size, HA.out.2.2.2])) ?_))
      refine (idsSame_any _ _ _ _ _ _ _ _ _ HI.out HI2.out).mono ?_
      rintro e w3 ⟨rfl, hb3⟩
      have HB3 := Lib.hid (H2.out.2.2.2.trans (hb3.mono H2.out.2.2.2.size))
      clear hb3 hc hc2 hq hq2
      generalize hT : (d.txs == d2.txs) = T at *
      have HT := Lib.hid hT
      clear hT
      go_wp2_with fail
      go_ret
      exact ⟨bretd HR.out.symm, HB3.out⟩
    · have hb2 : (d.par == d2.par) = false := by rw [beq_eq_false_iff_ne]; exact h2
      have HR : Hid (sameB d d2 = false) := by show _ = _; unfold sameB; rw [hb2]; simp
      clear h1 h2
      go_enter Try.func29, Try.ntmps29
      go_wp2_with (first
        | refine wpList_load_mid rfl 30 _ rfl w.heap.size 0 rfl (idA d.hash).toList _ HP.out.1 Try.underlying30 rfl (infoI _ (by rw [Array.length_toList, idA_size, HA.out.1])) ?_
        | refine wpList_load_mid rfl 30 _ rfl (w.heap.size + 1) 0 rfl (idA d2.hash).toList _ HP2.out.1 Try.underlying30 rfl (infoI _ (by rw [Array.length_toList, idA_size, HA.out.2.2.1])) ?_
        | refine wpList_unguard rfl (wpList_load_mid rfl 30 _ rfl w.heap.size 32 rfl (idA d.par).toList _ HP.out.2.1 Try.underlying30 rfl (infoI _ (by rw [Array.length_toList, idA_size, HA.out.2.1])) ?_)
        | refine wpList_unguard rfl (wpList_load_mid rfl 30 _ rfl (w.heap.size + 1) 32 rfl (idA d2.par).toList _ HP2.out.2.1 Try.underlying30 rfl (infoI _ (by rw [Array.length_toList, idA_size, HA.out.2.2.2])) ?_))
      go_ret
      exact ⟨bretd HR.out.symm, H2.out.2.2.2⟩
  · have hb1 : (d.hash == d2.hash) = false := by rw [beq_eq_false_iff_ne]; exact h1
    have HR : Hid (sameB d d2 = false) := by show _ = _; unfold sameB; rw [hb1]; simp
    clear h1
    go_enter Try.func29, Try.ntmps29
    go_wp2_with (first
      | refine wpList_load_mid rfl 30 _ rfl w.heap.size 0 rfl (idA d.hash).toList _ HP.out.1 Try.underlying30 rfl (infoI _ (by rw [Array.length_toList, idA_size, HA.out.1])) ?_
      | refine wpList_load_mid rfl 30 _ rfl (w.heap.size + 1) 0 rfl (idA d2.hash).toList _ HP2.out.1 Try.underlying30 rfl (infoI _ (by rw [Array.length_toList, idA_size, HA.out.2.2.1])) ?_)
    go_ret
    exact ⟨bretd HR.out.symm, H2.out.2.2.2⟩
end Go.Proofs.Ytepemfgiigceoaa.Blk

namespace Go.Proofs.Ytepemfgiigceoaa.Blk
open Go.RowKit Go.Mir Go.Mir.Parts

set_option maxRecDepth 100000 in
set_option maxHeartbeats 400000 in
theorem same_hash (M M2 : Array Value) (d d2 : BlkD) (q q2 : Option Addr) (n c n2 c2 : Nat) (w : World) (hM : BlkAt w M d q n c) (hM2 : BlkAt w M2 d2 q2 n2 c2) (h1 : ¬ d.hash = d2.hash) :
    Calls Try.prog 28 #[.agg M, .agg M2] w fun e w' => e = .returned (.bool (sameB d d2)) ∧ Below w.heap.size w w' := by
  have H2 := Lib.hid (two_allocs w (.cells M 33) (.cells M2 33))
  have HP := Lib.hid (hM.parts H2.out.1)
  have HP2 := Lib.hid (hM2.parts H2.out.2.1)
  have HM2 := Lib.hid hM2
  have HA : Hid (d.hash.length = 32 ∧ d.par.length = 32 ∧ d2.hash.length = 32 ∧ d2.par.length = 32) := ⟨hM.hlen, hM.plen, hM2.hlen, hM2.plen⟩
  have HI := Lib.hid (hM.ids.below H2.out.2.2.2)
  have HI2 := Lib.hid (hM2.ids.below H2.out.2.2.2)
  have hc := HP.out.2.2
  have hc2 := HP2.out.2.2
  have hq : ∀ w, (Op.equalIn 10000 30 (.agg (idA d.hash)) (.agg (idA d2.hash))).run Try.prog w = .ok (d.hash == d2.hash) w := fun w => eqI w _ _ HA.out.1 HA.out.2.2.1
  have hcap := hM.ids.sl.le
  have hmax := hM.ids.sl.max
  have hcap2 := hM2.ids.sl.le
  have hmax2 := hM2.ids.sl.max
  obtain rfl : d.txs.length = n := hM.ids.count
  obtain rfl : d2.txs.length = n2 := hM2.ids.count
  clear hM hM2
  have hb1 : (d.hash == d2.hash) = false := by rw [beq_eq_false_iff_ne]; exact h1
  have HR : Hid (sameB d d2 = false) := by show _ = _; unfold sameB; rw [hb1]; simp
  clear h1
  go_enter Try.func28, Try.ntmps28
  go_wp2_with (first
    | ((with_reducible refine wpAt 8 ?_); refine wpList_load_mid rfl 30 _ rfl w.heap.size 0 rfl (idA d.hash).toList _ HP.out.1 Try.underlying30 rfl (infoI _ (by rw [Array.length_toList, idA_size, HA.out.1])) ?_)
    | ((with_reducible refine wpAt 10 ?_); refine wpList_load_mid rfl 30 _ rfl (w.heap.size + 1) 0 rfl (idA d2.hash).toList _ HP2.out.1 Try.underlying30 rfl (infoI _ (by rw [Array.length_toList, idA_size, HA.out.2.2.1])) ?_))
  go_ret
  exact ⟨bretd HR.out.symm, H2.out.2.2.2⟩

set_option maxRecDepth 100000 in
set_option maxHeartbeats 400000 in
theorem same_par (M M2 : Array Value) (d d2 : BlkD) (q q2 : Option Addr) (n c n2 c2 : Nat) (w : World) (hM : BlkAt w M d q n c) (hM2 : BlkAt w M2 d2 q2 n2 c2) (h1 : d.hash = d2.hash) (h2 : ¬ d.par = d2.par) :
    Calls Try.prog 28 #[.agg M, .agg M2] w fun e w' => e = .returned (.bool (sameB d d2)) ∧ Below w.heap.size w w' := by
  have H2 := Lib.hid (two_allocs w (.cells M 33) (.cells M2 33))
  have HP := Lib.hid (hM.parts H2.out.1)
  have HP2 := Lib.hid (hM2.parts H2.out.2.1)
  have HM2 := Lib.hid hM2
  have HA : Hid (d.hash.length = 32 ∧ d.par.length = 32 ∧ d2.hash.length = 32 ∧ d2.par.length = 32) := ⟨hM.hlen, hM.plen, hM2.hlen, hM2.plen⟩
  have HI := Lib.hid (hM.ids.below H2.out.2.2.2)
  have HI2 := Lib.hid (hM2.ids.below H2.out.2.2.2)
  have hc := HP.out.2.2
  have hc2 := HP2.out.2.2
  have hq : ∀ w, (Op.equalIn 10000 30 (.agg (idA d.hash)) (.agg (idA d2.hash))).run Try.prog w = .ok (d.hash == d2.hash) w := fun w => eqI w _ _ HA.out.1 HA.out.2.2.1
  have hq2 : ∀ w, (Op.equalIn 10000 30 (.agg (idA d.par)) (.agg (idA d2.par))).run Try.prog w = .ok (d.par == d2.par) w := fun w => eqI w _ _ HA.out.2.1 HA.out.2.2.2
  have hcap := hM.ids.sl.le
  have hmax := hM.ids.sl.max
  have hcap2 := hM2.ids.sl.le
  have hmax2 := hM2.ids.sl.max
  obtain rfl : d.txs.length = n := hM.ids.count
  obtain rfl : d2.txs.length = n2 := hM2.ids.count
  clear hM hM2
  have hb1 : (d.hash == d2.hash) = true := by rw [beq_iff_eq]; exact h1
  clear h1
  have hb2 : (d.par == d2.par) = false := by rw [beq_eq_false_iff_ne]; exact h2
  have HR : Hid (sameB d d2 = false) := by show _ = _; unfold sameB; rw [hb2]; simp
  clear h2
  go_enter Try.func28, Try.ntmps28
  go_wp2_with (first
    | ((with_reducible refine wpAt 8 ?_); refine wpList_load_mid rfl 30 _ rfl w.heap.size 0 rfl (idA d.hash).toList _ HP.out.1 Try.underlying30 rfl (infoI _ (by rw [Array.length_toList, idA_size, HA.out.1])) ?_)
    | ((with_reducible refine wpAt 10 ?_); refine wpList_load_mid rfl 30 _ rfl (w.heap.size + 1) 0 rfl (idA d2.hash).toList _ HP2.out.1 Try.underlying30 rfl (infoI _ (by rw [Array.length_toList, idA_size, HA.out.2.2.1])) ?_)
    | ((with_reducible refine wpAt 14 ?_); refine wpList_unguard rfl (wpList_load_mid rfl 30 _ rfl w.heap.size 32 rfl (idA d.par).toList _ HP.out.2.1 Try.underlying30 rfl (infoI _ (by rw [Array.length_toList, idA_size, HA.out.2.1])) ?_))
    | ((with_reducible refine wpAt 16 ?_); refine wpList_unguard rfl (wpList_load_mid rfl 30 _ rfl (w.heap.size + 1) 32 rfl (idA d2.par).toList _ HP2.out.2.1 Try.underlying30 rfl (infoI _ (by rw [Array.length_toList, idA_size, HA.out.2.2.2])) ?_)))
  go_ret
  exact ⟨bretd HR.out.symm, H2.out.2.2.2⟩

set_option maxRecDepth 100000 in
set_option maxHeartbeats 1000000 in
theorem same_any (M M2 : Array Value) (d d2 : BlkD) (q q2 : Option Addr) (n c n2 c2 : Nat) (w : World) (hM : BlkAt w M d q n c) (hM2 : BlkAt w M2 d2 q2 n2 c2) :
    Calls Try.prog 28 #[.agg M, .agg M2] w fun e w' => e = .returned (.bool (sameB d d2)) ∧ Below w.heap.size w w' := by
  have H2 := Lib.hid (two_allocs w (.cells M 33) (.cells M2 33))
  have HP := Lib.hid (hM.parts H2.out.1)
  have HP2 := Lib.hid (hM2.parts H2.out.2.1)
  have HM2 := Lib.hid hM2
  have HA : Hid (d.hash.length = 32 ∧ d.par.length = 32 ∧ d2.hash.length = 32 ∧ d2.par.length = 32) := ⟨hM.hlen, hM.plen, hM2.hlen, hM2.plen⟩
  have HI := Lib.hid (hM.ids.below H2.out.2.2.2)
  have HI2 := Lib.hid (hM2.ids.below H2.out.2.2.2)
  have hc := HP.out.2.2
  have hc2 := HP2.out.2.2
  have hz := zeroI
  have hq : ∀ w, (Op.equalIn 10000 30 (.agg (idA d.hash)) (.agg (idA d2.hash))).run Try.prog w = .ok (d.hash == d2.hash) w := fun w => eqI w _ _ HA.out.1 HA.out.2.2.1
  have hq2 : ∀ w, (Op.equalIn 10000 30 (.agg (idA d.par)) (.agg (idA d2.par))).run Try.prog w = .ok (d.par == d2.par) w := fun w => eqI w _ _ HA.out.2.1 HA.out.2.2.2
  have hcap := hM.ids.sl.le
  have hmax := hM.ids.sl.max
  have hcap2 := hM2.ids.sl.le
  have hmax2 := hM2.ids.sl.max
  obtain rfl : d.txs.length = n := hM.ids.count
  obtain rfl : d2.txs.length = n2 := hM2.ids.count
  by_cases h1 : d.hash = d2.hash
  · have hb1 : (d.hash == d2.hash) = true := by rw [beq_iff_eq]; exact h1
    by_cases h2 : d.par = d2.par
    · have hb2 : (d.par == d2.par) = true := by rw [beq_iff_eq]; exact h2
      have HR : Hid (sameB d d2 = (d.txs == d2.txs)) := by show _ = _; unfold sameB; rw [hb1, hb2]; rfl
      clear h1 h2 hM hM2
      by_cases hl : d.txs.length = d2.txs.length
      · have hlen : ((d.txs.length : Int) == (d2.txs.length : Int)) = true := by rw [beq_iff_eq]; omega
        have hlen2 : ((d.txs.length : Int) != (d2.txs.length : Int)) = false := by rw [bne_eq_false_iff_eq]; omega
        have HL := Lib.hid hl
        clear hl
        go_enter Try.func28, Try.ntmps28
        go_wp2_with (first
          | ((with_reducible refine wpAt 8 ?_); refine wpList_load_mid rfl 30 _ rfl w.heap.size 0 rfl (idA d.hash).toList _ HP.out.1 Try.underlying30 rfl (infoI _ (by rw [Array.length_toList, idA_size, HA.out.1])) ?_)
          | ((with_reducible refine wpAt 10 ?_); refine wpList_load_mid rfl 30 _ rfl (w.heap.size + 1) 0 rfl (idA d2.hash).toList _ HP2.out.1 Try.underlying30 rfl (infoI _ (by rw [Array.length_toList, idA_size, HA.out.2.2.1])) ?_)
          | ((with_reducible refine wpAt 14 ?_); refine wpList_unguard rfl (wpList_load_mid rfl 30 _ rfl w.heap.size 32 rfl (idA d.par).toList _ HP.out.2.1 Try.underlying30 rfl (infoI _ (by rw [Array.length_toList, idA_size, HA.out.2.1])) ?_))
          | ((with_reducible refine wpAt 16 ?_); refine wpList_unguard rfl (wpList_load_mid rfl 30 _ rfl (w.heap.size + 1) 32 rfl (idA d2.par).toList _ HP2.out.2.1 Try.underlying30 rfl (infoI _ (by rw [Array.length_toList, idA_size, HA.out.2.2.2])) ?_)))
        have HR1 := Lib.hid H2.out.2.1
        have HB := Lib.hid H2.out.2.2.2
        generalize (w.alloc (.cells M 33)).alloc (.cells M2 33) = w2 at *
        clear hc hc2 hq hq2
        go_loopw [31] (fun j wr => ∃ k : Nat, k ≤ d.txs.length ∧ j = .int .i64 k ∧ d.txs.take k = d2.txs.take k ∧ Below w2.heap.size w2 wr) (fun j _ => d.txs.length - (intOf j).toNat)
        case atStart => exact ⟨0, by omega, rfl, rfl, Below.refl _ _⟩
        case round =>
          obtain ⟨k, hk, rfl, heq, hbw⟩ := hrel
          have HEQ := Lib.hid heq
          have HBW := Lib.hid hbw
          clear heq hbw
          by_cases hlt : k < d.txs.length
          · have hlt2 : k < d2.txs.length := by rw [← HL.out]; exact hlt
            obtain ⟨b, o, rfl⟩ := HI.out.sl.addr (by omega) (by omega)
            obtain ⟨b2, o2, rfl⟩ := HI2.out.sl.addr (by omega) (by omega)
            have HRA := Lib.hid ((HI.out.below HBW.out).range (by omega) k hlt)
            have HRM2 := Lib.hid (Below.keepOld HBW.out HR1.out)
            have HLA : Hid ((d.txs[k]'hlt).length = 32) := HI.out.each _ (List.getElem_mem _)
            have HLB : Hid ((d2.txs[k]'hlt2).length = 32) := HI2.out.each _ (List.getElem_mem _)
            have HST : Hid (d.txs[k]'hlt = d2.txs[k]'hlt2 → d.txs.take (k + 1) = d2.txs.take (k + 1)) := fun e => take_eq_step HEQ.out hlt hlt2 e
            have HNE : Hid (¬ d.txs[k]'hlt = d2.txs[k]'hlt2 → (d.txs == d2.txs) = false) := fun h => by
              rw [beq_eq_false_iff_ne]; intro e
              exact h (by simp only [e])
            have HNW := Lib.hid (box_new wr (idA zeros) 30)
            have HBR := Lib.hid (box_row wr (idA zeros) (idA (d.txs[k]'hlt)) 30)
            have HBB := Lib.hid (box_below wr (idA zeros) (idA (d.txs[k]'hlt)) 30)
            have HB4 := Lib.hid (HBW.out.trans (HBB.out.mono HBW.out.size))
            have HRB := Lib.hid (range_grown ((HI2.out.below HB4.out).range (by omega) k hlt2))
            generalize d.txs[k]'hlt = x at *
            generalize d2.txs[k]'hlt2 = y at *
            have HXS : Hid ((idA x).size = 32) := by show _ = _; rw [idA_size, HLA.out]
            have HXL : Hid ((idA x).toList.length = 32) := by show _ = _; rw [Array.length_toList, HXS.out]
            have hq : ∀ w, (Op.equalIn 10000 30 (.agg (idA x)) (.agg (idA y))).run Try.prog w = .ok (x == y) w := fun w => eqI w _ _ HLA.out HLB.out
            have hd : decide ((k : Int) < (d.txs.length : Int)) = true := decide_eq_true (by omega)
            by_cases hxy : x = y
            · have hbq : (x == y) = true := by rw [beq_iff_eq]; exact hxy
              have HN := Lib.hid (HST.out hxy)
              clear hxy
              go_wp2_with (first
                | refine wpList_load_mid rfl 30 _ rfl b (o + k * 32) rfl (idA x).toList _ HRA.out Try.underlying30 rfl (infoI _ HXL.out) ?_
                | refine wpList_store_row rfl 30 _ _ rfl wr.heap.size (idA x) rfl rfl 30 (idA zeros) HNW.out (infoI _ HXS.out) (zeros_size.trans HXS.out.symm) (idA_one x) ?_)
              generalize (wr.alloc (.cells (idA zeros) 30)).setRow wr.heap.size (idA x) = w4 at *
              have hg64 := cell_grown ((HM2.out.parts (Below.keepOld HB4.out HR1.out)).2.2)
              have HGX := Lib.hid (range_grown_row HBR.out)
              refine wp_region_grow (by kernel_rfl) (by kernel_rfl) ?_
              repeat (first
                | refine wpQuiet_load rfl 30 _ rfl wr.heap.size 0 rfl (idA x) _ HGX.out Try.underlying30 rfl (infoI _ HXS.out) ?_
                | refine wpQuiet_load rfl 30 _ rfl b2 (o2 + k * 32) rfl (idA y) _ HRB.out Try.underlying30 rfl (infoI _ (by rw [idA_size, HLB.out])) ?_
                | quiet_step (fail))
              refine wpQuiet_nil ?_
              intro w5 hb5
              have HB5 := Lib.hid (HB4.out.trans (hb5.mono HB4.out.size))
              clear hb5 hq hg64
              go_wp2_with fail
              go_roundw
              case rel => exact ⟨k + 1, by omega, by go_num, HN.out, HB5.out⟩
              case measure => simp [intOf]; omega
            · have hbq : (x == y) = false := by rw [beq_eq_false_iff_ne]; exact hxy
              have HN := Lib.hid (HNE.out hxy)
              clear hxy
              go_wp2_with (first
                | refine wpList_load_mid rfl 30 _ rfl b (o + k * 32) rfl (idA x).toList _ HRA.out Try.underlying30 rfl (infoI _ HXL.out) ?_
                | refine wpList_store_row rfl 30 _ _ rfl wr.heap.size (idA x) rfl rfl 30 (idA zeros) HNW.out (infoI _ HXS.out) (zeros_size.trans HXS.out.symm) (idA_one x) ?_)
              generalize (wr.alloc (.cells (idA zeros) 30)).setRow wr.heap.size (idA x) = w4 at *
              have hg64 := cell_grown ((HM2.out.parts (Below.keepOld HB4.out HR1.out)).2.2)
              have HGX := Lib.hid (range_grown_row HBR.out)
              refine wp_region_grow (by kernel_rfl) (by kernel_rfl) ?_
              repeat (first
                | refine wpQuiet_load rfl 30 _ rfl wr.heap.size 0 rfl (idA x) _ HGX.out Try.underlying30 rfl (infoI _ HXS.out) ?_
                | refine wpQuiet_load rfl 30 _ rfl b2 (o2 + k * 32) rfl (idA y) _ HRB.out Try.underlying30 rfl (infoI _ (by rw [idA_size, HLB.out])) ?_
                | quiet_step (fail))
              refine wpQuiet_nil ?_
              intro w5 hb5
              have HB5 := Lib.hid (HB4.out.trans (hb5.mono HB4.out.size))
              clear hb5 hq hg64
              go_wp2_with fail
              go_ret
              exact ⟨bretd (HR.out.trans HN.out).symm, HB.out.trans (HB5.out.mono HB.out.size)⟩
          · have HRR : Hid ((d.txs == d2.txs) = true) := by
              show _ = _
              have h1 := HEQ.out
              rw [List.take_of_length_le (by omega), List.take_of_length_le (by rw [← HL.out]; omega)] at h1
              rw [beq_iff_eq]; exact h1
            have hd : decide ((k : Int) < (d.txs.length : Int)) = false := decide_eq_false (by omega)
            go_wp2_with fail
            go_ret
            exact ⟨bretd (HR.out.trans HRR.out).symm, HB.out.trans (HBW.out.mono HB.out.size)⟩
      · have hlen : ((d.txs.length : Int) == (d2.txs.length : Int)) = false := by rw [beq_eq_false_iff_ne]; omega
        have HN : Hid (sameB d d2 = false) := by show _ = _; rw [HR.out, beq_eq_false_iff_ne]; intro e; exact hl (by rw [e])
        clear hl
        go_enter Try.func28, Try.ntmps28
        go_wp2_with (first
          | ((with_reducible refine wpAt 8 ?_); refine wpList_load_mid rfl 30 _ rfl w.heap.size 0 rfl (idA d.hash).toList _ HP.out.1 Try.underlying30 rfl (infoI _ (by rw [Array.length_toList, idA_size, HA.out.1])) ?_)
          | ((with_reducible refine wpAt 10 ?_); refine wpList_load_mid rfl 30 _ rfl (w.heap.size + 1) 0 rfl (idA d2.hash).toList _ HP2.out.1 Try.underlying30 rfl (infoI _ (by rw [Array.length_toList, idA_size, HA.out.2.2.1])) ?_)
          | ((with_reducible refine wpAt 14 ?_); refine wpList_unguard rfl (wpList_load_mid rfl 30 _ rfl w.heap.size 32 rfl (idA d.par).toList _ HP.out.2.1 Try.underlying30 rfl (infoI _ (by rw [Array.length_toList, idA_size, HA.out.2.1])) ?_))
          | ((with_reducible refine wpAt 16 ?_); refine wpList_unguard rfl (wpList_load_mid rfl 30 _ rfl (w.heap.size + 1) 32 rfl (idA d2.par).toList _ HP2.out.2.1 Try.underlying30 rfl (infoI _ (by rw [Array.length_toList, idA_size, HA.out.2.2.2])) ?_)))
        go_ret
        exact ⟨bretd HN.out.symm, H2.out.2.2.2⟩
    · exact same_par _ _ _ _ _ _ _ _ _ _ _ hM hM2 h1 h2
  · exact same_hash _ _ _ _ _ _ _ _ _ _ _ hM hM2 h1
end Go.Proofs.Ytepemfgiigceoaa.Blk

namespace Go.Proofs.Ytepemfgiigceoaa.Wr
open Go.RowKit Go.Mir Go.Mir.Parts

theorem infoB : (Try.prog.info? 5).map (fun i => (i.zero, i.size, i.bytes)) = some (some (.int .u8 0), 1, 1) := by kernel_rfl

/-- a writer that a call made: its block, its bytes' slice, room, bytes, fault -/
structure WAt (w : World) (wb : Nat) (v : Value) (room : Nat) (l : List UInt8) (bad : Int) : Prop where
  blk : w.heap[wb]? = some (.cells #[.bool true, .int .i64 (room : Int), v, .int .i64 bad] 95 (0, 0))
  own : w.ownsRow 0 5 1 v l.length (bytesV l)
  sep : v.ownBlock ≠ some wb
  fits : l.length ≤ room
  roomy : room ≤ 9223372036854775807
/-- its blocks -/
def foot (wb : Nat) (v : Value) (k : Nat) : Prop := k = wb ∨ v.ownBlock = some k

theorem WAt.touch {S : Nat → Prop} {w w' : World} {wb : Nat} {v : Value} {room : Nat} {l : List UInt8} {bad : Int} (h : WAt w wb v room l bad) (ht : Turns S w w') (hS : ∀ k, foot wb v k → ¬ S k) : WAt w' wb v room l bad :=
  ⟨ht.keep h.blk (hS _ (.inl rfl)), own_touch h.own ht (fun k hk => hS k (.inr hk)), h.sep, h.fits, h.roomy⟩
theorem WAt.drew {w : World} {wb : Nat} {v : Value} {room : Nat} {l : List UInt8} {bad : Int} (h : WAt w wb v room l bad) : WAt w.drew wb v room l bad := ⟨h.blk, h.own, h.sep, h.fits, h.roomy⟩
theorem WAt.lt {w : World} {wb : Nat} {v : Value} {room : Nat} {l : List UInt8} {bad : Int} (h : WAt w wb v room l bad) : ∀ k, foot wb v k → k < w.heap.size := by
  intro k hk
  rcases hk with rfl | hk
  · exact (Array.getElem?_eq_some_iff.1 h.blk).1
  · exact (h.own.lt k hk).2

/-- the four cells -/
theorem WAt.cells {w : World} {wb : Nat} {v : Value} {room : Nat} {l : List UInt8} {bad : Int} (h : WAt w wb v room l bad) :
    w.cell? ⟨wb, 0, none⟩ = some (.bool true) ∧ w.cell? ⟨wb, 1, none⟩ = some (.int .i64 (room : Int)) ∧ w.cell? ⟨wb, 2, none⟩ = some v ∧ w.cell? ⟨wb, 3, none⟩ = some (.int .i64 bad) ∧ w.frozen? ⟨wb, 2, none⟩ = false ∧ w.frozen? ⟨wb, 3, none⟩ = false := by
  refine ⟨?_, ?_, ?_, ?_, frozen_of_row _ _ _ _ _ h.blk, frozen_of_row _ _ _ _ _ h.blk⟩ <;> (rw [cell_of_row _ _ _ _ _ _ h.blk]; rfl)

/-! ### is there none? -/
theorem none_made (wb : Nat) (w : World) (hc : w.cell? ⟨wb, 0, none⟩ = some (.bool true)) :
    Calls Try.prog 63 #[.pointer (some ⟨wb, 0, none⟩)] w fun e w' => e = .returned (.bool false) ∧ w = w' := by
  go_enter Try.func63, Try.ntmps63
  go_wp2
  go_ret
  exact ⟨rfl, rfl⟩
theorem none_zero (wb : Nat) (w : World) (hc : w.cell? ⟨wb, 0, none⟩ = some (.bool false)) :
    Calls Try.prog 63 #[.pointer (some ⟨wb, 0, none⟩)] w fun e w' => e = .returned (.bool true) ∧ w = w' := by
  go_enter Try.func63, Try.ntmps63
  go_wp2
  go_ret
  exact ⟨rfl, rfl⟩
theorem none_nil (w : World) :
    Calls Try.prog 63 #[.pointer none] w fun e w' => e = .returned (.bool true) ∧ w = w' := by
  go_enter Try.func63, Try.ntmps63
  go_wp2
  go_ret
  exact ⟨rfl, rfl⟩

/-! ### Fail -/
theorem fail_any (wb : Nat) (v : Value) (room : Nat) (l : List UInt8) (bad e0 : Int) (w : World) (h : WAt w wb v room l bad) :
    Calls Try.prog 64 #[.pointer (some ⟨wb, 0, none⟩), .int .i64 e0] w fun e w' => e = .returned (.tuple #[]) ∧ WAt w' wb v room l (if bad = 0 then e0 else bad) ∧ Turns (foot wb v) w w' := by
  obtain ⟨c0, c1, c2, c3, f2, f3⟩ := h.cells
  have HW := Lib.hid h
  by_cases hb : bad = 0
  · subst hb
    go_enter Try.func64, Try.ntmps64
    go_wp2_with (go_at_call 63; refine (none_made _ _ c0).mono ?_; rintro e w' ⟨rfl, rfl⟩)
    go_end0
    refine ⟨rfl, ?_, (Turns.refl _ _).setCell (fun _ => .inl rfl) _⟩
    try rw [if_pos rfl]
    exact ⟨by rw [heap_setCell_same _ _ _ _ _ _ HW.out.blk]; rfl, own_touch HW.out.own ((Turns.refl (fun k => k = wb) _).setCell (fun _ => rfl) _) (fun k hk e => HW.out.sep (by rw [hk, e])), HW.out.sep, HW.out.fits, HW.out.roomy⟩
  · have hb' : (bad == 0) = false := by simp [hb]
    go_enter Try.func64, Try.ntmps64
    go_wp2_with (go_at_call 63; refine (none_made _ _ c0).mono ?_; rintro e w' ⟨rfl, rfl⟩)
    go_end0
    try rw [if_neg hb]
    exact ⟨rfl, HW.out, Turns.refl _ _⟩

/-! ### put -/
/-- what is held behind 'put': bytes, fault -/
def putS (room : Nat) (l : List UInt8) (bad : Int) (fits : Bool) (ps : List (List UInt8)) : List UInt8 × Int :=
  if bad = 0 then (if fits then (if total ps ≤ room - l.length then (l ++ ps.flatten, 0) else (l, 3)) else (l, 1)) else (l, bad)

/-- what a call leaves of a writer -/
def Left (wb : Nat) (v : Value) (room : Nat) (r : List UInt8 × Int) (w w' : World) : Prop :=
  ∃ v', WAt w' wb v' room r.1 r.2 ∧ Turns (foot wb v) w w' ∧ NextV w v v'

set_option maxRecDepth 100000 in
set_option maxHeartbeats 400000 in
theorem put_sum (p : Option Addr) (n c : Nat) (ls : List (List UInt8)) (wb : Nat) (v : Value) (room : Nat) (l : List UInt8) (fits : Bool) (w : World) (h : WAt w wb v room l 0)
    (hP : ∀ w', Turns (foot wb v) w w' → Pts w' p n c ls) (hs : total ls ≤ 70368744177664) (hl : l.length ≤ 70368744177664) :
    Calls Try.prog 61 #[.pointer (some ⟨wb, 0, none⟩), .bool fits, .slice p n c] w fun e w' => e = .returned (.tuple #[]) ∧ Left wb v room (putS room l 0 fits ls) w w' := by
  obtain ⟨pv, cv, hv, hsv⟩ := own_sl h.own
  subst hv
  have hvle := hsv.le
  have hvmax := hsv.max
  clear hsv
  obtain ⟨c0, c1, c2, c3, f2, f3⟩ := h.cells
  have hroom := h.roomy
  have hfit := h.fits
  have HW := Lib.hid h
  have hp := hP w (Turns.refl _ _)
  have hle := hp.le
  have hmax := hp.max
  have hn := hp.len
  have HP := Lib.hid hp
  have HPP := Lib.hid hP
  clear h hp hP
  go_enter Try.func61, Try.ntmps61
  go_wp2_with (go_at_call 63; refine (none_made _ _ c0).mono ?_; rintro e w' ⟨rfl, rfl⟩)
  go_loop [6, 23] (fun x j => ∃ k : Nat, k ≤ n ∧ j = .int .i64 k ∧ x = .int .i64 ((total (ls.take k) : Nat) : Int)) (fun _ j => n - (intOf j).toNat)
  case atStart => exact ⟨0, by omega, rfl, rfl⟩
  case round =>
    obtain ⟨k, hk, rfl, rfl⟩ := hrel
    have htl := total_le ls k
    by_cases hlt : k < n
    · obtain ⟨b, o, rfl⟩ := HP.out.addr (by omega)
      obtain ⟨q, m, d, hc, hB⟩ := HP.out.cell _ rfl k (by omega)
      rw [add_none] at hc
      have htk := total_take ls k (by omega)
      have htl' := total_le ls (k + 1)
      rw [hB.length] at htk
      have HTK := Lib.hid htk
      have hsum : total (ls.take k) + m ≤ 4611686018427387904 := by omega
      clear htk htl' hB
      generalize hT : total (ls.take k) = T at *
      have HT := Lib.hid hT
      clear hT
      go_wp2
      go_round
      case rel => exact ⟨k + 1, by omega, by go_num, by rw [HTK.out]; go_num⟩
      case measure => simp [intOf]; omega
    · have hk' : k = ls.length := by omega
      rw [hk', List.take_length]
      generalize hT : total ls = T at *
      have HT := Lib.hid hT
      clear hT htl
      cases fits with
      | false =>
        go_wp2_with fail
        refine (fail_any wb _ room l 0 1 _ HW.out).mono ?_
        rintro e w1 ⟨rfl, hw1, ht1⟩
        have HW1 := Lib.hid hw1
        have HT1 := Lib.hid ht1
        clear hw1 ht1
        go_wp2_with fail
        refine bodyPost_ret (results_none rfl _ _ _) rfl ?_
        exact ⟨rfl, _, HW1.out, HT1.out, fun _ hk _ => hk⟩
      | true =>
        by_cases hT2 : T ≤ room - l.length
        · have hcmp : decide ((room : Int) - (l.length : Int) < (T : Int)) = false := by simp; omega
          have hput : Hid (putS room l 0 true ls = (l ++ ls.flatten, 0)) := by show _ = _; simp [putS, HT.out, hT2]
          have htot : l.length + T ≤ 140737488355328 ∧ l.length + T ≤ room := by omega
          go_wp2_with fail
          go_quiet (fail)
          go_wp2_with fail
          have HW2 : Hid (WAt (w.drewN nq) wb (.slice pv l.length cv) room l 0) := ⟨HW.out.blk, HW.out.own, HW.out.sep, HW.out.fits, HW.out.roomy⟩
          have HT2 : Hid (Turns (foot wb (.slice pv l.length cv)) w (w.drewN nq)) := ⟨rfl, rfl, rfl, Nat.le_refl _, fun _ _ _ => rfl⟩
          clear c0 c1 c2 c3 f2 f3
          generalize w.drewN nq = w2 at *
          go_loopw [53] (fun j wr => ∃ (k : Nat) (p1 : Option Addr) (n1 c1 : Nat), k ≤ n ∧ j = .int .i64 k ∧ WAt wr wb (.slice p1 n1 c1) room (l ++ (ls.take k).flatten) 0 ∧ Turns (foot wb (.slice pv l.length cv)) w wr ∧ NextV w (.slice pv l.length cv) (.slice p1 n1 c1)) (fun j _ => n - (intOf j).toNat)
          case atStart => exact ⟨0, pv, l.length, cv, by omega, rfl, by simpa using HW2.out, HT2.out, fun _ hk _ => hk⟩
          case round =>
            obtain ⟨k, p1, n1, c1, hk, rfl, hw1, ht1, hnx1⟩ := hrel
            by_cases hlt : k < n
            · obtain ⟨e0, e1, e2, e3, g2, g3⟩ := hw1.cells
              obtain ⟨b, o, rfl⟩ := HP.out.addr (by omega)
              obtain ⟨q, m, d, hc, hB⟩ := (HPP.out wr ht1).cell _ rfl k (by omega)
              rw [add_none] at hc
              have hlen : (l ++ (ls.take k).flatten).length = l.length + total (ls.take k) := by rw [List.length_append, total_flatten]
              have htk := total_take ls k (by omega)
              have htl' := total_le ls (k + 1)
              rw [hB.length] at htk
              rw [HT.out] at htl'
              have hfl : Hid (l ++ (ls.take (k+1)).flatten = (l ++ (ls.take k).flatten) ++ ls[k]) := by
                show _ = _
                rw [take_snoc ls k (by omega), List.flatten_append]; simp
              have hbd : Hid ((l ++ (ls.take k).flatten).length + m ≤ 9223372036854775807 ∧ ((l ++ (ls.take k).flatten).length + m) * 1 ≤ 140737488355328) := by
                show _ ∧ _
                rw [hlen]; omega
              have hfit' : Hid ((l ++ (ls.take (k+1)).flatten).length ≤ room) := by
                show _ ≤ _
                rw [List.length_append, total_flatten]; omega
              have HBm := Lib.hid hB.length
              have HS := Lib.hid hB
              have hleq : (l ++ (ls.take k).flatten).length + m = (l ++ (ls.take (k+1)).flatten).length := by rw [hfl.out, ← hB.length]; exact List.length_append.symm
              clear hlen htk htl' hB
              generalize l ++ (ls.take k).flatten = L at *
              generalize hL' : l ++ (ls.take (k+1)).flatten = L' at *
              have HL' := Lib.hid hL'
              have HLQ := Lib.hid hleq
              have HW1 := Lib.hid hw1
              have HT1 := Lib.hid ht1
              have HN1 := Lib.hid hnx1
              clear hw1 ht1 hnx1 hL' hleq
              go_wp2_with (at_builtin; refine wpList_append_nx rfl _ _ 53 rfl (base := 0) Try.underlying53 infoB rfl (by omega) rfl HW1.out.own rfl HS.out (bytesV_one _) hbd.out (Nat.zero_le _) ?_)
              intro p' c' w3 hown hg hnx hne
              have e2' : w3.cell? ⟨wb, 2, none⟩ = some (.slice p1 n1 c1) := hg.cell e2 (fun e => HW1.out.sep e.symm)
              have g2' : w3.frozen? ⟨wb, 2, none⟩ = false := by
                rw [World.frozen?_of_block (hg.block wb (Array.getElem?_eq_some_iff.1 HW1.out.blk).1 (fun e => HW1.out.sep e.symm))]; exact g2
              have HO := Lib.hid hown
              have HG := Lib.hid hg
              have HNX := Lib.hid hnx
              clear hown hg hnx hne
              go_wp2_with fail
              go_roundw
              case rel =>
                have hlt1 : wb < wr.heap.size := (Array.getElem?_eq_some_iff.1 HW1.out.blk).1
                have hb3 : w3.heap[wb]? = some (.cells #[.bool true, .int .i64 (room : Int), .slice p1 n1 c1, .int .i64 0] 95 (0, 0)) := by
                  rw [HG.out.block wb hlt1 (fun e => HW1.out.sep e.symm)]; exact HW1.out.blk
                have hsep : ¬ (Value.slice p' (L.length + m) c').ownBlock = some wb := by
                  intro e
                  rcases HNX.out wb e with h | h
                  · exact HW1.out.sep h
                  · omega
                refine ⟨k + 1, p', L.length + m, c', by omega, by go_num, ?_, ?_, ?_⟩
                rw [HL'.out]
                refine ⟨?_, ?_, hsep, hfit'.out, hroom⟩
                · rw [heap_setCell_same _ _ _ _ _ _ hb3]; rfl
                · have := own_touch HO.out ((Turns.refl (fun k => k = wb) _).setCell (p := ⟨wb, 2, none⟩) (fun _ => rfl) (.slice p' (L.length + m) c')) (fun k hk e => hsep (by rw [hk, e]))
                  rw [hfl.out, bytesV_append, ← hfl.out, ← HLQ.out]
                  exact this
                · refine HT1.out.trans ((Turns.grown (S := foot wb (.slice p1 n1 c1)) HG.out (fun k hk => .inr hk)).setCell (fun _ => .inl rfl) _) ?_
                  intro i hi hfi
                  rcases hfi with rfl | hfi
                  · exact .inl rfl
                  · exact .inr (HN1.out i hfi hi)
                · intro j hj hjl
                  rcases HNX.out j hj with h | h
                  · exact HN1.out j h hjl
                  · have := HT1.out.size; omega
              case measure => simp [intOf]; omega
            · have hk' : k = ls.length := by omega
              rw [hk', List.take_length] at hw1
              have HW1 := Lib.hid hw1
              have HT1 := Lib.hid ht1
              have HN1 := Lib.hid hnx1
              clear hw1 ht1 hnx1
              go_wp2_with fail
              go_end0
              exact ⟨rfl, _, by rw [hput.out]; exact HW1.out, HT1.out, HN1.out⟩
        · have hcmp : decide ((room : Int) - (l.length : Int) < (T : Int)) = true := by simp; omega
          have hput : Hid (putS room l 0 true ls = (l, 3)) := by show _ = _; simp [putS, HT.out, hT2]
          go_wp2_with fail
          go_quiet (fail)
          go_wp2_with fail
          have HW2 : Hid (WAt (w.drewN nq) wb (.slice pv l.length cv) room l 0) := ⟨HW.out.blk, HW.out.own, HW.out.sep, HW.out.fits, HW.out.roomy⟩
          have HT2 : Hid (Turns (foot wb (.slice pv l.length cv)) w (w.drewN nq)) := ⟨rfl, rfl, rfl, Nat.le_refl _, fun _ _ _ => rfl⟩
          refine (fail_any wb _ room l 0 3 _ HW2.out).mono ?_
          rintro e w1 ⟨rfl, hw1, ht1⟩
          have HW1 := Lib.hid hw1
          have HT1 : Hid (Turns (foot wb (.slice pv l.length cv)) w w1) := HT2.out.trans ht1 (fun _ _ h => h)
          clear hw1 ht1
          go_wp2_with fail
          refine bodyPost_ret (results_none rfl _ _ _) rfl ?_
          exact ⟨rfl, _, by rw [hput.out]; exact HW1.out, HT1.out, fun _ hk _ => hk⟩

end Go.Proofs.Ytepemfgiigceoaa.Wr

namespace Go.Proofs.Ytepemfgiigceoaa.Wr
open Go.RowKit Go.Mir Go.Mir.Parts

theorem Left.refl {w : World} {wb : Nat} {v : Value} {room : Nat} {l : List UInt8} {bad : Int} (h : WAt w wb v room l bad) : Left wb v room (l, bad) w w := ⟨v, h, Turns.refl _ _, fun _ hk _ => hk⟩

theorem put_any (p : Option Addr) (n c : Nat) (ls : List (List UInt8)) (wb : Nat) (v : Value) (room : Nat) (l : List UInt8) (bad : Int) (fits : Bool) (w : World) (h : WAt w wb v room l bad)
    (hP : ∀ w', Turns (foot wb v) w w' → Pts w' p n c ls) (hs : total ls ≤ 70368744177664) (hl : l.length ≤ 70368744177664) :
    Calls Try.prog 61 #[.pointer (some ⟨wb, 0, none⟩), .bool fits, .slice p n c] w fun e w' => e = .returned (.tuple #[]) ∧ Left wb v room (putS room l bad fits ls) w w' := by
  by_cases hb : bad = 0
  · subst hb
    exact put_sum p n c ls wb v room l fits w h hP hs hl
  · obtain ⟨c0, c1, c2, c3, f2, f3⟩ := h.cells
    have hb' : (bad != 0) = true := by simp [hb]
    have HL : Hid (Left wb v room (putS room l bad fits ls) w w) := by
      show Left _ _ _ _ _ _
      rw [putS, if_neg hb]; exact Left.refl h
    clear h hP
    go_enter Try.func61, Try.ntmps61
    go_wp2_with (go_at_call 63; refine (none_made _ _ c0).mono ?_; rintro e w' ⟨rfl, rfl⟩)
    refine bodyPost_ret (results_none rfl _ _ _) rfl ?_
    exact ⟨rfl, HL.out⟩

/-- what a part's slices in a new row are, while the writer's own blocks turn -/
theorem stable1 {w : World} {S : Nat → Prop} {p : Option Addr} {n c b : Nat} {l : List UInt8} (hB : ∀ w', Turns S w w' → Bs w' p n c l) (hS : ∀ k, S k → k < w.heap.size) (t : TypeId) (hb : b = w.heap.size) :
    ∀ w', Turns S (w.alloc (.cells #[.slice p n c] t)) w' → Pts w' (some ⟨b, 0, none⟩) 1 1 [l] := by
  intro w' ht
  subst hb
  have hT : Turns S w w' := ((Turns.refl S w).alloc _).trans ht (fun _ _ h => h)
  have hrow : w'.heap[w.heap.size]? = some (.cells #[.slice p n c] t) := ht.keep (heap_alloc_last _ _) (fun h => by have := hS _ h; omega)
  refine ⟨rfl, Nat.le_refl _, by omega, fun h => (by cases h), fun a ha j hj => ?_⟩
  obtain rfl := Option.some.inj ha
  obtain rfl : j = 0 := by simp at hj; omega
  exact ⟨p, n, c, by rw [add_none, cell_of_row _ _ _ _ _ _ hrow]; rfl, hB w' hT⟩

theorem Left.alloc {w : World} {wb : Nat} {v : Value} {room : Nat} {r : List UInt8 × Int} {o : Obj} {w' : World} (h : Left wb v room r (w.alloc o) w') : Left wb v room r w w' := by
  obtain ⟨v', h1, h2, h3⟩ := h
  exact ⟨v', h1, ((Turns.refl _ w).alloc o).trans h2 (fun _ _ h => h), fun k hk hlt => h3 k hk (by simp; omega)⟩
theorem WAt.alloc {w : World} {wb : Nat} {v : Value} {room : Nat} {l : List UInt8} {bad : Int} (h : WAt w wb v room l bad) (o : Obj) : WAt (w.alloc o) wb v room l bad :=
  h.touch (S := fun _ => False) ((Turns.refl _ w).alloc o) (fun _ _ h => h)

theorem id_any (M : Array Value) (b : List UInt8) (hM : M.toList = bytesV b) (hb32 : b.length = 32) (wb : Nat) (v : Value) (room : Nat) (l : List UInt8) (bad : Int) (w : World) (h : WAt w wb v room l bad) (hl : l.length ≤ 70368744177664) :
    Calls Try.prog 56 #[.pointer (some ⟨wb, 0, none⟩), .agg M] w fun e w' => e = .returned (.tuple #[]) ∧ Left wb v room (putS room l bad true [b]) w w' := by
  have HS : Hid (∀ b' t, b' = (w.alloc (.cells M 30)).heap.size → ∀ w', Turns (foot wb v) ((w.alloc (.cells M 30)).alloc (.cells #[.slice (some ⟨w.heap.size, 0, none⟩) 32 32] t)) w' → Pts w' (some ⟨b', 0, none⟩) 1 1 [b]) := by
    intro b' t hb'
    refine stable1 (S := foot wb v) (fun w' ht => ?_) (fun k hk => by have := h.lt k hk; simp; omega) t hb'
    have hrow : w'.heap[w.heap.size]? = some (.cells M 30) := ht.keep (heap_alloc_last _ _) (fun hk => by have := h.lt _ hk; omega)
    exact ⟨by rw [bytesV_length, hb32], Nat.le_refl _, by omega, fun h => (by cases h), fun a ha j u hu => by
      obtain rfl := Option.some.inj ha
      rw [add_none, cell_of_row _ _ _ _ _ _ hrow, ← Array.getElem?_toList, hM, Nat.zero_add]; exact hu⟩
  have HW := Lib.hid h
  have htot : total [b] ≤ 70368744177664 := by simp [total, hb32]
  clear h hM
  go_enter Try.func56, Try.ntmps56
  go_wp2_with (go_at_call 61; refine (put_any _ _ _ [b] wb v room l bad true _ ((HW.out.alloc _).alloc _) (HS.out _ _ (by simp)) htot hl).mono ?_; rintro e w1 ⟨rfl, hl1⟩)
  go_end0
  exact ⟨rfl, hl1.alloc.alloc⟩

theorem err_any (wb : Nat) (v : Value) (room : Nat) (l : List UInt8) (bad : Int) (w : World) (h : WAt w wb v room l bad) :
    Calls Try.prog 62 #[.pointer (some ⟨wb, 0, none⟩)] w fun e w' => e = .returned (.int .i64 bad) ∧ w = w' := by
  obtain ⟨c0, c1, c2, c3, f2, f3⟩ := h.cells
  clear h
  go_enter Try.func62, Try.ntmps62
  go_wp2_with (go_at_call 63; refine (none_made _ _ c0).mono ?_; rintro e w' ⟨rfl, rfl⟩)
  go_ret
  exact ⟨rfl, rfl⟩

theorem done_any (wb : Nat) (v : Value) (room : Nat) (l : List UInt8) (bad : Int) (w : World) (h : WAt w wb v room l bad) (hl : l.length ≤ 140737488355328) :
    Calls Try.prog 59 #[.pointer (some ⟨wb, 0, none⟩)] w fun e w' =>
      (∃ p n c, e = .returned (.tuple #[.slice p n c, .int .i64 bad]) ∧ w'.ownsRow w.heap.size 5 1 (.slice p n c) n (bytesV (if bad = 0 then l else []))) ∧ Below w.heap.size w w' := by
  obtain ⟨pv, cv, hv, hsv⟩ := own_sl h.own
  subst hv
  obtain ⟨c0, c1, c2, c3, f2, f3⟩ := h.cells
  have HW := Lib.hid h
  have HV := Lib.hid hsv
  clear h hsv
  by_cases hb : bad = 0
  · subst hb
    have hbd : Hid (0 + l.length ≤ 9223372036854775807 ∧ (0 + l.length) * 1 ≤ 140737488355328) := by
      show _ ∧ _; omega
    go_enter Try.func59, Try.ntmps59
    go_wp2_with (first | (go_at_call 62; refine (err_any _ _ _ _ _ _ HW.out).mono ?_; rintro e w' ⟨rfl, rfl⟩) | (at_builtin; refine wpList_append_nx rfl _ _ 53 rfl (base := w.heap.size) Try.underlying53 infoB rfl (by omega) rfl (World.ownsRow_nil _ _ _ _) rfl HV.out (bytesV_one _) hbd.out (Nat.le_refl _) ?_))
    intro p' c' w1 hown hg hnx hne
    have HO : Hid (w1.ownsRow w.heap.size 5 1 (.slice p' (0 + l.length) c') (0 + l.length) (bytesV (if (0 : Int) = 0 then l else []))) := by
      show World.ownsRow _ _ _ _ _ _ _
      simpa using hown
    have HG : Hid (Below w.heap.size w w1) := (Below.refl _ _).grown hg (Nat.le_refl _) (fun k hk => by simp [Value.ownBlock] at hk)
    clear hown hg hnx hne
    go_wp2
    go_ret2
    refine ⟨⟨p', _, c', rfl, ?_⟩, HG.out⟩
    have := HO.out
    rw [Nat.zero_add] at this
    exact this
  · have hb' : (bad != 0) = true := by simp [hb]
    go_enter Try.func59, Try.ntmps59
    go_wp2_with (go_at_call 62; refine (err_any _ _ _ _ _ _ HW.out).mono ?_; rintro e w' ⟨rfl, rfl⟩)
    go_ret2
    have ho : w.ownsRow w.heap.size 5 1 (.slice none 0 0) 0 (bytesV (if bad = 0 then l else [])) := by rw [if_neg hb]; exact World.ownsRow_nil _ _ _ _
    exact ⟨⟨none, 0, 0, rfl, by simpa [hb] using ho⟩, Below.refl _ _⟩

theorem new_any (room : Int) (w : World) (hr : room ≤ 9223372036854775807) :
    Calls Try.prog 55 #[.int .i64 room] w fun e w' => e = .returned (.pointer (some ⟨w.heap.size, 0, none⟩)) ∧ WAt w' w.heap.size (.slice none 0 0) room.toNat [] 0 ∧ Below w.heap.size w w' := by
  have key : Hid (∀ x : Int, x = (room.toNat : Int) → WAt (w.alloc (.cells #[.bool true, .int .i64 x, .slice none 0 0, .int .i64 0] 95)) w.heap.size (.slice none 0 0) room.toNat [] 0) := by
    intro x hx
    subst hx
    exact ⟨heap_alloc_last _ _, World.ownsRow_nil _ _ _ _, by simp [Value.ownBlock], by simp, by omega⟩
  go_enter Try.func55, Try.ntmps55
  go_wp2
  all_goals
    go_ret
    exact ⟨rfl, key.out _ (by omega), Below.allocs _ _⟩

end Go.Proofs.Ytepemfgiigceoaa.Wr

namespace Go.Proofs.Ytepemfgiigceoaa.Wr
open Go.RowKit Go.Mir Go.Mir.Parts

theorem infoS : (Try.prog.info? 53).map (fun i => (i.zero, i.size, i.bytes)) = some (some (.slice none 0 0), 1, 24) := by kernel_rfl
def idV (p : Option Addr) (i : Nat) : Value := match p with
  | some a => .slice (some ⟨a.block, a.off + i * 32, none⟩) 32 32
  | none => undef
def idsV (p : Option Addr) (k : Nat) : List Value := (List.range k).map (idV p)
theorem idsV_succ (p : Option Addr) (k : Nat) : idsV p (k + 1) = idsV p k ++ [idV p k] := by simp [idsV, List.range_succ]
theorem total_ids (ids : List (List UInt8)) (h : ∀ x ∈ ids, x.length = 32) : total ids = 32 * ids.length := by
  induction ids with
  | nil => rfl
  | cons x r ih =>
    have h1 := h x (by simp)
    have h2 := ih (fun y hy => h y (by simp [hy]))
    simp only [total, List.map_cons, List.sum_cons, List.length_cons] at *
    omega

set_option maxRecDepth 100000 in
set_option maxHeartbeats 400000 in
theorem ids_any (p : Option Addr) (n c : Nat) (ids : List (List UInt8)) (wb : Nat) (v : Value) (room : Nat) (l : List UInt8) (bad : Int) (w : World) (h : WAt w wb v room l bad)
    (hI : ∀ w', Turns (foot wb v) w w' → Is w' p n c 32 ids) (hs : n ≤ 1099511627776) (hl : l.length ≤ 70368744177664) :
    Calls Try.prog 58 #[.pointer (some ⟨wb, 0, none⟩), .slice p n c] w fun e w' => e = .returned (.tuple #[]) ∧ Left wb v room (putS room l bad true ids) w w' := by
  have hi0 := hI w (Turns.refl _ _)
  have hle := hi0.sl.le
  have hmax := hi0.sl.max
  have hcnt := hi0.count
  have HI := Lib.hid hI
  have HI0 := Lib.hid hi0
  have HW := Lib.hid h
  clear hI hi0 h
  go_enter Try.func58, Try.ntmps58
  go_wp2
  go_loopw [4, 8] (fun x j wr => ∃ k : Nat, k ≤ n ∧ j = .int .i64 k ∧ wr.ownsRow w.heap.size 53 1 x k (idsV p k) ∧ Below w.heap.size w wr) (fun _ j _ => n - (intOf j).toNat)
  case atStart => exact ⟨0, by omega, rfl, World.ownsRow_nil _ _ _ _, Below.refl _ _⟩
  case round =>
    obtain ⟨k, hk, rfl, how, hbl⟩ := hrel
    have HO := Lib.hid how
    have HB := Lib.hid hbl
    clear how hbl
    by_cases hlt : k < n
    · obtain ⟨b, o, rfl⟩ := HI0.out.sl.addr (by omega) (by omega)
      have hbd : Hid (k + 1 ≤ 9223372036854775807 ∧ (k + 1) * 24 ≤ 140737488355328) := by show _ ∧ _; omega
      have hnew : Hid (Sl (wr.alloc (.cells #[.slice (some ⟨b, o + k * 32, none⟩) 32 32] 53)) (some ⟨wr.heap.size, 0, none⟩) 1 1 1 [idV (some ⟨b, o, none⟩) k]) :=
        ⟨rfl, Nat.le_refl _, by omega, fun h => (by cases h), fun a ha j u hu => by
          obtain rfl := Option.some.inj ha
          rw [add_none, cell_alloc_new]
          cases j with
          | zero => simpa [idV] using hu
          | succ j => simp at hu⟩
      go_wp2_with (at_builtin; refine wpList_append_nx rfl _ _ 98 rfl (base := w.heap.size) Try.underlying98 infoS rfl (by omega) rfl (HO.out.alloc _) rfl hnew.out (by simp [idV, Value.oneCell']) hbd.out (by have := HB.out.size; simp; omega) ?_)
      intro p' c' w1 hown hg hnx hne
      have HO' : Hid (w1.ownsRow w.heap.size 53 1 (.slice p' (k + 1) c') (k + 1) (idsV (some ⟨b, o, none⟩) (k + 1))) := by
        show World.ownsRow _ _ _ _ _ _ _
        rw [idsV_succ]; exact hown
      have HB' : Hid (Below w.heap.size w w1) := (HB.out.alloc HB.out.size _).trans ((Below.refl _ _).grown hg (by have := HB.out.size; simp; omega) (fun i hi => (HO.out.lt i hi).1))
      clear hown hg hnx hne
      go_wp2
      go_roundw
      case rel => exact ⟨k + 1, by omega, by go_num, HO'.out, HB'.out⟩
      case measure => simp [intOf]; omega
    · obtain rfl : k = n := by omega
      obtain ⟨px, cx, hx, hsx⟩ := own_sl HO.out
      subst hx
      have hlt0 := HW.out.lt
      have HP : Hid (∀ w', Turns (foot wb v) wr w' → Pts w' px k cx ids) := by
        intro w' ht
        have ho' := own_touch HO.out ht (fun i hi hf => by have := (HO.out.lt i hi).1; have := hlt0 i hf; omega)
        obtain ⟨px', cx', hx', hsx'⟩ := own_sl ho'
        cases hx'
        have hI' := HI.out w' ((Turns.of_below HB.out).trans ht (fun _ _ h => h))
        refine ⟨hcnt, hsx'.le, hsx'.max, hsx'.nil0, fun a ha j hj => ?_⟩
        obtain ⟨b, o, rfl⟩ := HI0.out.sl.addr (by omega) (by omega)
        exact ⟨_, 32, 32, hsx'.cell a ha j (.slice (some ⟨b, o + j * 32, none⟩) 32 32) (by simp [idsV, idV, show j < k by omega]), hI'.one j hj (by omega)⟩
      have HW' : Hid (WAt wr wb v room l bad) := HW.out.touch (Turns.of_below (S := fun _ => False) HB.out) (fun _ _ h => h)
      have htot : Hid (total ids ≤ 70368744177664) := by
        show _ ≤ _
        rw [total_ids ids HI0.out.each]; omega
      clear hsx hlt0
      go_wp2_with (go_at_call 61; refine (put_any _ _ _ ids wb v room l bad true _ HW'.out HP.out htot.out hl).mono ?_; rintro e w1 ⟨rfl, hl1⟩)
      go_end0
      refine ⟨rfl, ?_⟩
      obtain ⟨v', h1, h2, h3⟩ := hl1
      exact ⟨v', h1, (Turns.of_below HB.out).trans h2 (fun _ _ h => h), fun i hi hlt => h3 i hi (by have := HB.out.size; omega)⟩

/-! ### Num -/
/-- byte j of eight, the highest first -/
def nb (n j : Nat) : UInt8 := UInt8.ofNat (n / 2 ^ (8 * (7 - j)))
def numArr (n k : Nat) : Array Value := ((List.range 8).map fun j => Value.int .u8 (if 8 ≤ j + k then ((nb n j).toNat : Int) else 0)).toArray
theorem numArr_size (n k : Nat) : (numArr n k).size = 8 := by simp [numArr]
theorem numArr_get (n k j : Nat) (hj : j < 8) : (numArr n k)[j]? = some (Value.int .u8 (if 8 ≤ j + k then ((nb n j).toNat : Int) else 0)) := by simp [numArr, hj]
theorem nb_int (n k : Nat) (hk : k < 8) : ((n : Int) / 2 ^ (8 * k)) % 256 = ((nb n (7 - k)).toNat : Int) := by
  have e : ((n : Int) / 2 ^ (8 * k)) = ((n / 2 ^ (8 * k) : Nat) : Int) := by rw [Int.natCast_ediv, Int.natCast_pow]; rfl
  rw [e, nb, UInt8.toNat_ofNat', show 7 - (7 - k) = k from by omega]
  omega
theorem numArr_set (n k : Nat) (hk : k < 8) : (numArr n k).setIfInBounds (7 - k) (.int .u8 ((nb n (7 - k)).toNat : Int)) = numArr n (k + 1) := by
  apply Array.ext_getElem?
  intro j
  by_cases hj : j < 8
  · rw [Array.getElem?_setIfInBounds, numArr_get _ _ _ hj, numArr_get _ _ _ hj, numArr_size]
    by_cases e : 7 - k = j
    · subst e; simp [show 7 - k < 8 by omega, show 8 ≤ 7 - k + (k + 1) by omega]
    · rw [if_neg e]
      have : (8 ≤ j + k) ↔ (8 ≤ j + (k + 1)) := by omega
      simp [this]
  · rw [Array.getElem?_eq_none, Array.getElem?_eq_none] <;> simp [numArr_size] <;> omega
def Z8 : Array Value := Array.replicate 8 (.int .u8 0)
theorem numArr_0 (n : Nat) : numArr n 0 = Z8 := by
  apply Array.ext_getElem?
  intro j
  by_cases hj : j < 8
  · rw [numArr_get _ _ _ hj, if_neg (by omega)]; simp [Z8, hj]
  · rw [Array.getElem?_eq_none, Array.getElem?_eq_none] <;> simp [numArr_size, Z8] <;> omega
/-- so many bytes of a number, the highest first -/
def be (n width : Nat) : List UInt8 := (List.range width).map fun i => nb n (8 - width + i)
theorem be_length (n width : Nat) : (be n width).length = width := by simp [be]

def numS (room : Nat) (l : List UInt8) (bad : Int) (n : Nat) (width : Int) : List UInt8 × Int :=
  if 1 ≤ width ∧ width ≤ 8 ∧ (width = 8 ∨ n < 2 ^ (8 * width.toNat)) then putS room l bad true [be n width.toNat] else putS room l bad false [[]]
theorem putS_false (room : Nat) (l : List UInt8) (bad : Int) (ps qs : List (List UInt8)) : putS room l bad false ps = putS room l bad false qs := by simp [putS]

/-- the end of the array that Num lays, as a slice -/
theorem num_bs {w' : World} {b n k : Nat} {t : TypeId} (hrow : w'.heap[b]? = some (.cells (numArr n 8) t (0, 0))) (hk : k ≤ 8) : Bs w' (some ⟨b, 8 - k, none⟩) k k (be n k) :=
  ⟨by rw [bytesV_length, be_length, Nat.mul_one], Nat.le_refl _, by omega, fun h => (by cases h), fun a ha j u hu => by
    obtain rfl := Option.some.inj ha
    have hj : j < k := by
      have := (List.getElem?_eq_some_iff.1 hu).1
      rwa [bytesV_length, be_length] at this
    rw [add_none, cell_of_row _ _ _ _ _ _ hrow, numArr_get _ _ _ (by omega), if_pos (by omega), ← hu]
    rw [bytesV_get _ _ (by rw [be_length]; exact hj)]
    simp [be]⟩

set_option maxRecDepth 100000 in
set_option maxHeartbeats 400000 in
theorem num_any (n : Nat) (width : Int) (wb : Nat) (v : Value) (room : Nat) (l : List UInt8) (bad : Int) (w : World) (h : WAt w wb v room l bad) (hn : n < 18446744073709551616) (hw1 : -9223372036854775808 ≤ width) (hw2 : width ≤ 9223372036854775807) (hl : l.length ≤ 70368744177664) :
    Calls Try.prog 57 #[.pointer (some ⟨wb, 0, none⟩), .int .u64 (n : Int), .int .i64 width] w fun e w' => e = .returned (.tuple #[]) ∧ Left wb v room (numS room l bad n width) w w' := by
  have hz : ∀ w, (zeroValue 97).run Try.prog w = .ok (.agg Z8) w := fun w => by kernel_rfl
  have HW := Lib.hid h
  have hlt0 := Lib.hid h.lt
  clear h
  go_enter Try.func57, Try.ntmps57
  go_wp2
  go_loopw [10] (fun j wr => ∃ k : Nat, k ≤ 8 ∧ j = .int .i64 k ∧ wr.heap.size = w.heap.size + 1 ∧ wr.heap[w.heap.size]? = some (.cells (numArr n k) 97 (0, 0)) ∧ Below w.heap.size w wr) (fun j _ => 8 - (intOf j).toNat)
  case atStart => exact ⟨0, by omega, rfl, by simp, by rw [numArr_0]; exact heap_alloc_last _ _, Below.allocs _ _⟩
  case round =>
    obtain ⟨k, hk, rfl, hsz, hb0, hbl⟩ := hrel
    by_cases hlt : k < 8
    · have hd : decide ((k:Int) < 8) = true := by simp; omega
      have hc : wr.cell? ⟨w.heap.size, 7 - k, none⟩ = some (.int .u8 0) := by
        rw [cell_of_row _ _ _ _ _ _ hb0, numArr_get _ _ _ (by omega), if_neg (by omega)]
      have hf := frozen_of_row _ _ (7 - k) _ _ hb0
      have hv := nb_int n k hlt
      go_wp2
      go_roundw
      case rel =>
        exact ⟨k + 1, by omega, by go_num, by simp [World.setCell, hsz], by rw [heap_setCell_same _ _ _ _ _ _ hb0, numArr_set n k hlt], hbl.setCell (by simp) _⟩
      case measure => simp [intOf]; omega
    · have hd : decide ((k:Int) < 8) = false := by simp; omega
      have hk8 : k = 8 := by omega
      have hrow : wr.heap[w.heap.size]? = some (.cells (numArr n 8) 97 (0, 0)) := by rw [← hk8]; exact hb0
      have HR := Lib.hid hrow
      have HB := Lib.hid hbl
      have HW' : Hid (WAt wr wb v room l bad) := HW.out.touch (Turns.of_below (S := fun _ => False) hbl) (fun _ _ h => h)
      have HP : Hid (∀ m : Nat, m ≤ 8 → ∀ b' t, b' = wr.heap.size → ∀ w', Turns (foot wb v) (wr.alloc (.cells #[.slice (some ⟨w.heap.size, 8 - m, none⟩) m m] t)) w' → Pts w' (some ⟨b', 0, none⟩) 1 1 [be n m]) := by
        intro m hm b' t hb'
        refine stable1 (S := foot wb v) (fun w' ht => ?_) (fun i hi => by have := hlt0.out i hi; omega) t hb'
        exact num_bs (ht.keep hrow (fun hf => by have := hlt0.out _ hf; omega)) hm
      clear hb0 hbl hrow
      have hfin : Hid (∀ r o w1, Left wb v room r (wr.alloc o) w1 → Left wb v room r w w1) := by
        intro r o w1 h1
        obtain ⟨v', h1, h2, h3⟩ := h1.alloc
        exact ⟨v', h1, (Turns.of_below HB.out).trans h2 (fun _ _ h => h), fun i hi hlt => h3 i hi (by omega)⟩
      by_cases hw : 1 ≤ width ∧ width ≤ 8
      · obtain ⟨m, rfl⟩ : ∃ m : Nat, width = (m : Int) := ⟨width.toNat, by omega⟩
        have hsl : ∀ wx, (Instr.sliceAt 97 (.pointer (some ⟨w.heap.size, 0, none⟩)) (some (.int .i64 (8 - (m : Int)))) none none).run Try.prog wx = .ok (.slice (some ⟨w.heap.size, 8 - m, none⟩) m m) wx := fun wx => by
          have h1 := run_sliceAt_from (P := Try.prog) wx 97 5 8 1 Try.underlying97 (by kernel_rfl) ⟨w.heap.size, 0, none⟩ .i64 (8 - (m : Int)) (8 - m) (by omega) (by omega)
          rw [h1, add_none, show 0 + (8 - m) * 1 = 8 - m by omega, show 8 - (8 - m) = m by omega]
        have htot : total [be n m] ≤ 70368744177664 := by simp [total, be_length]; omega
        have HTO := Lib.hid htot
        clear htot
        have hm1 : (1 : Int) ≤ (m : Int) := by omega
        have hm8 : (m : Int) ≤ 8 := by omega
        by_cases hm : m = 8
        · have he : ((m : Int) == 8) = true := by rw [beq_iff_eq]; omega
          have hnum : Hid (numS room l bad n (m : Int) = putS room l bad true [be n m]) := by
            show _ = _
            rw [numS, if_pos ⟨hw.1, hw.2, .inl (by rw [hm]; rfl)⟩, Int.toNat_natCast]
          clear hm
          go_wp2_with (go_at_call 61; refine (put_any _ _ _ [be n m] wb v room l bad true _ (HW'.out.alloc _) (HP.out m (by omega) _ _ (by omega)) HTO.out hl).mono ?_; rintro e w1 ⟨rfl, hl1⟩)
          go_end0
          exact ⟨rfl, by rw [hnum.out]; exact hfin.out _ _ _ hl1⟩
        · have he : ((m : Int) == 8) = false := by rw [beq_eq_false_iff_ne]; omega
          have hpw : ((n : Int) / 2 ^ (8 * m)) = ((n / 2 ^ (8 * m) : Nat) : Int) := by rw [Int.natCast_ediv, Int.natCast_pow]; rfl
          by_cases hnm : n < 2 ^ (8 * m)
          · have hs0 : ((n : Int) / 2 ^ (8 * m) == 0) = true := by rw [hpw, Nat.div_eq_of_lt hnm]; rfl
            have hnum : Hid (numS room l bad n (m : Int) = putS room l bad true [be n m]) := by
              show _ = _
              rw [numS, if_pos ⟨hw.1, hw.2, .inr (by rw [Int.toNat_natCast]; exact hnm)⟩, Int.toNat_natCast]
            clear hm hpw hnm
            go_wp2_with (go_at_call 61; refine (put_any _ _ _ [be n m] wb v room l bad true _ (HW'.out.alloc _) (HP.out m (by omega) _ _ (by omega)) HTO.out hl).mono ?_; rintro e w1 ⟨rfl, hl1⟩)
            go_end0
            exact ⟨rfl, by rw [hnum.out]; exact hfin.out _ _ _ hl1⟩
          · have hs0 : ((n : Int) / 2 ^ (8 * m) == 0) = false := by
              rw [hpw, beq_eq_false_iff_ne]
              have : 0 < n / 2 ^ (8 * m) := Nat.div_pos (by omega) (Nat.two_pow_pos _)
              omega
            have hnum : Hid (numS room l bad n (m : Int) = putS room l bad false [be n m]) := by
              show _ = _
              rw [numS, if_neg (fun h => by rcases h.2.2 with h | h; omega; rw [Int.toNat_natCast] at h; exact hnm h)]
              exact putS_false _ _ _ _ _
            clear hm hpw hnm
            go_wp2_with (go_at_call 61; refine (put_any _ _ _ [be n m] wb v room l bad false _ (HW'.out.alloc _) (HP.out m (by omega) _ _ (by omega)) HTO.out hl).mono ?_; rintro e w1 ⟨rfl, hl1⟩)
            go_end0
            exact ⟨rfl, by rw [hnum.out]; exact hfin.out _ _ _ hl1⟩
      · have hsl : ∀ wx, (Instr.sliceAt 97 (.pointer (some ⟨w.heap.size, 0, none⟩)) (some (.int .i64 0)) none none).run Try.prog wx = .ok (.slice (some ⟨w.heap.size, 0, none⟩) 8 8) wx := fun wx => by
          have h1 := run_sliceAt_from (P := Try.prog) wx 97 5 8 1 Try.underlying97 (by kernel_rfl) ⟨w.heap.size, 0, none⟩ .i64 0 0 rfl (by omega)
          rw [h1, add_none]
        have hnum : Hid (numS room l bad n width = putS room l bad false [be n 8]) := by
          show _ = _
          rw [numS, if_neg (fun h => hw ⟨h.1, h.2.1⟩)]
          exact putS_false _ _ _ _ _
        have HP0 : Hid (∀ b' t, b' = wr.heap.size → ∀ w', Turns (foot wb v) (wr.alloc (.cells #[.slice (some ⟨w.heap.size, 0, none⟩) 8 8] t)) w' → Pts w' (some ⟨b', 0, none⟩) 1 1 [be n 8]) := HP.out 8 (by omega)
        have HTO : Hid (total [be n 8] ≤ 70368744177664) := by show _ ≤ _; simp [total, be_length]
        by_cases hw0 : width < 1
        · go_wp2_with (go_at_call 61; refine (put_any _ _ _ [be n 8] wb v room l bad false _ (HW'.out.alloc _) (HP0.out _ _ (by omega)) HTO.out hl).mono ?_; rintro e w1 ⟨rfl, hl1⟩)
          go_end0
          exact ⟨rfl, by rw [hnum.out]; exact hfin.out _ _ _ hl1⟩
        · have hw9 : 8 < width := by omega
          have hd9 : decide (width ≤ 8) = false := by simp; omega
          go_wp2_with (go_at_call 61; refine (put_any _ _ _ [be n 8] wb v room l bad false _ (HW'.out.alloc _) (HP0.out _ _ (by omega)) HTO.out hl).mono ?_; rintro e w1 ⟨rfl, hl1⟩)
          go_end0
          exact ⟨rfl, by rw [hnum.out]; exact hfin.out _ _ _ hl1⟩

end Go.Proofs.Ytepemfgiigceoaa.Wr
