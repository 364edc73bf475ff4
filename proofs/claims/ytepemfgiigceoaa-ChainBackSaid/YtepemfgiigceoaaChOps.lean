/- THE CALLS OF A STATEMENT ON CHAINS, as they lie in memory; are there not too many? Conditions: none. -/
import Derived.Test.YtepemfgiigceoaaChain10
import Derived.Test.YtepemfgiigceoaaBlk7
namespace Go.Proofs.Ytepemfgiigceoaa.Chn
open Go.RowKit Go.Mir Go.Mir.Parts Go.Proofs.Ytepemfgiigceoaa.Blk

/-- what a call of the statement is -/
structure COp where
  kind : Int
  nr : Bool
  blk : BlkD
def opA (k : Int) (nr : Bool) (M : Array Value) : Array Value := #[.int .i64 k, .bool nr] ++ M
theorem opA_toList (k : Int) (nr : Bool) (M : Array Value) : (opA k nr M).toList = [.int .i64 k, .bool nr] ++ M.toList := by simp [opA]
structure COpAt (w : World) (cs : List Value) (o : COp) : Prop where
  form : ∃ q c, cs = (opA o.kind o.nr (blkA o.blk.hash o.blk.par q o.blk.txs.length c)).toList ∧ BlkAt w (blkA o.blk.hash o.blk.par q o.blk.txs.length c) o.blk q o.blk.txs.length c
  kindB : -9223372036854775808 ≤ o.kind ∧ o.kind ≤ 9223372036854775807
theorem COpAt.below {w w' : World} {cs : List Value} {o : COp} (h : COpAt w cs o) (hb : Below w.heap.size w w') : COpAt w' cs o := by
  obtain ⟨q, c, h1, h2⟩ := h.form
  exact ⟨⟨q, c, h1, h2.below hb⟩, h.kindB⟩
structure COps (w : World) (p : Option Addr) (n c : Nat) (os : List COp) (rows : List (List Value)) : Prop where
  rs : Rs w p n c 67 rows
  count : os.length = n
  each : ∀ (i : Nat) r o, rows[i]? = some r → os[i]? = some o → COpAt w r o
theorem COps.below {w w' : World} {p : Option Addr} {n c : Nat} {os : List COp} {rows : List (List Value)} (h : COps w p n c os rows) (hb : Below w.heap.size w w') : COps w' p n c os rows :=
  ⟨h.rs.below hb, h.count, fun i r o h1 h2 => (h.each i r o h1 h2).below hb⟩
theorem COps.at {w : World} {b o n c : Nat} {os : List COp} {rows : List (List Value)} (h : COps w (some ⟨b, o, none⟩) n c os rows) (k : Nat) (hk : k < os.length) : ∃ q cc, BlkAt w (blkA os[k].blk.hash os[k].blk.par q os[k].blk.txs.length cc) os[k].blk q os[k].blk.txs.length cc ∧ w.rangeAt b (o + k * 67) (opA os[k].kind os[k].nr (blkA os[k].blk.hash os[k].blk.par q os[k].blk.txs.length cc)).toList := by
  have hkr : k < rows.length := by rw [h.rs.count, ← h.count]; exact hk
  obtain ⟨q, cc, e, hb⟩ := (h.each k _ os[k] (List.getElem?_eq_getElem hkr) (List.getElem?_eq_getElem hk)).form
  refine ⟨q, cc, hb, ?_⟩
  rw [← e]
  exact h.rs.row k hkr
theorem opA_size {k : Int} {nr : Bool} {M : Array Value} (h : M.size = 65) : (opA k nr M).size = 67 := by simp [opA, h]
theorem opA_one {k : Int} {nr : Bool} {M : Array Value} (h : M.all (·.oneCell') = true) : (opA k nr M).all (·.oneCell') = true := by
  unfold opA
  rw [Array.all_append, h]
  simp [Value.oneCell']
theorem opA_blk {w : World} {b : Nat} {k : Int} {nr : Bool} {M : Array Value} {t : TypeId} {fr : Nat × Nat} (h : w.heap[b]? = some (.cells (opA k nr M) t fr)) : w.rangeAt b 2 M.toList := by
  have := range_row h [.int .i64 k, .bool nr] M.toList [] (by rw [opA_toList]; simp)
  simpa using this
theorem opA_cell {w : World} {b : Nat} {k : Int} {nr : Bool} {M : Array Value} {t : TypeId} {fr : Nat × Nat} (h : w.heap[b]? = some (.cells (opA k nr M) t fr)) : w.cell? ⟨b, 0, none⟩ = some (.int .i64 k) ∧ w.cell? ⟨b, 1, none⟩ = some (.bool nr) := by
  refine ⟨?_, ?_⟩
  · rw [cell_of_row _ _ _ _ _ _ h, ← Array.getElem?_toList, opA_toList]; rfl
  · rw [cell_of_row _ _ _ _ _ _ h, ← Array.getElem?_toList, opA_toList]; rfl
theorem infoOp (n : Nat) (h : n = 67) : (Try.prog.info? 35).map (·.size) = some n := by subst h; kernel_rfl
theorem zOp : ∃ Z : Array Value, (∀ w0, (zeroValue 35).run Try.prog w0 = .ok (.agg Z) w0) ∧ Z.size = 67 := ⟨opA 0 false (blkA zeros zeros none 0 0), fun w0 => by kernel_rfl, by kernel_rfl⟩
/-- what 'few' answers -/
def FewP (os : List COp) (w : World) (e : Ending) (w' : World) : Prop := ∃ b : Bool, e = .returned (.bool b) ∧ (b = true → os.length ≤ 100 ∧ ∀ o ∈ os, o.blk.txs.length ≤ 100) ∧ Below w.heap.size w w'

set_option maxRecDepth 100000 in
set_option maxHeartbeats 400000 in
theorem fewOps_any (os : List COp) (p : Option Addr) (c : Nat) (rows : List (List Value)) (w : World) (h : COps w p os.length c os rows) :
    Calls Try.prog 8 #[.slice p os.length c] w (FewP os w) := by
  obtain ⟨Z, hz, hZ⟩ := zOp
  have HZZ := Lib.hid hZ
  have H := Lib.hid h
  have hle := h.rs.sl.le
  have hmax := h.rs.sl.max
  clear h hZ
  go_enter Try.func8, Try.ntmps8
  go_wp2_with fail
  go_loopw [7] (fun j wr => ∃ k : Nat, k ≤ os.length ∧ j = .int .i64 k ∧ (∀ i o, i < k → os[i]? = some o → o.blk.txs.length ≤ 100) ∧ Below w.heap.size w wr) (fun j _ => os.length - (intOf j).toNat)
  case atStart => exact ⟨0, by omega, rfl, fun i o h => absurd h (Nat.not_lt_zero i), Below.refl _ _⟩
  case round =>
    obtain ⟨k, hk, rfl, hall, hb0⟩ := hrel
    have HALL := Lib.hid hall
    have HB0 := Lib.hid hb0
    clear hall hb0
    by_cases hlt : k < os.length
    · have hd : decide ((k : Int) < (os.length : Int)) = true := decide_eq_true (by omega)
      obtain ⟨b, o, rfl⟩ := H.out.rs.sl.addr (by omega) (by omega)
      obtain ⟨q, cq, hbq, hrg⟩ := H.out.at k hlt
      have HGK : Hid (os[k]? = some os[k]) := List.getElem?_eq_getElem hlt
      have HBQ := Lib.hid (hbq.below HB0.out)
      have HRG0 := Lib.hid (range_below hrg HB0.out)
      clear hbq hrg
      generalize os[k] = oo at *
      obtain ⟨A, hA⟩ : ∃ A, A = blkA oo.blk.hash oo.blk.par q oo.blk.txs.length cq := ⟨_, rfl⟩
      rw [← hA] at HBQ HRG0
      clear hA
      have HAS := Lib.hid HBQ.out.size
      have HAL : Hid (A.toList.length = 65) := by show _ = _; rw [Array.length_toList]; exact HBQ.out.size
      have HOS := Lib.hid (opA_size (k := oo.kind) (nr := oo.nr) HBQ.out.size)
      have HOO := Lib.hid (opA_one (k := oo.kind) (nr := oo.nr) HBQ.out.one)
      have HOL : Hid ((opA oo.kind oo.nr A).toList.length = 67) := by show _ = _; rw [Array.length_toList]; exact HOS.out
      have HNW := Lib.hid (box_new wr Z 35)
      have HBR := Lib.hid (box_row wr Z (opA oo.kind oo.nr A) 35)
      have HBB := Lib.hid (box_below wr Z (opA oo.kind oo.nr A) 35)
      have HB3 := Lib.hid (HB0.out.trans (HBB.out.mono HB0.out.size))
      have HBQ3 := Lib.hid (HBQ.out.below HBB.out)
      have HMID := Lib.hid (opA_blk HBR.out)
      go_wp2_with (first
        | ((with_reducible refine wpAt 10 ?_); refine wpList_load_mid rfl 35 _ rfl b (o + k * 67) rfl (opA oo.kind oo.nr A).toList _ HRG0.out Try.underlying35 rfl (infoOp _ HOL.out) ?_)
        | ((with_reducible refine wpStoreAt 4 ?_); refine wpList_store_row rfl 35 _ _ rfl wr.heap.size (opA oo.kind oo.nr A) rfl rfl 35 Z HNW.out (infoOp _ HOS.out) (HZZ.out.trans HOS.out.symm) HOO.out ?_)
        | ((with_reducible refine wpAt 12 ?_); refine wpList_load_mid rfl 33 _ rfl wr.heap.size 2 rfl A.toList _ HMID.out Try.underlying33 rfl (infoBlk _ HAL.out) ?_))
      generalize (wr.alloc (.cells Z 35)).setRow wr.heap.size (opA oo.kind oo.nr A) = w3 at *
      refine (few_any A oo.blk q _ cq w3 HBQ3.out).mono ?_
      rintro e w4 ⟨rfl, hb4⟩
      have HB4 := Lib.hid (HB3.out.trans (hb4.mono HB3.out.size))
      clear hb4
      by_cases hm : oo.blk.txs.length ≤ 100
      · have hdm : decide (oo.blk.txs.length ≤ 100) = true := decide_eq_true hm
        have HM := Lib.hid hm
        clear hm
        go_wp2_with fail
        go_roundw
        case rel =>
          refine ⟨k + 1, by omega, by go_num, fun i o' hi ho' => ?_, HB4.out⟩
          by_cases hik : i = k
          · rw [hik, HGK.out] at ho'
            cases ho'
            exact HM.out
          · exact HALL.out i o' (by omega) ho'
        case measure => simp [intOf]; omega
      · have hdm : decide (oo.blk.txs.length ≤ 100) = false := decide_eq_false hm
        clear hm
        go_wp2_with fail
        go_ret
        exact ⟨false, rfl, fun h => (by cases h), HB4.out⟩
    · have hd : decide ((k : Int) < (os.length : Int)) = false := decide_eq_false (by omega)
      have HALL2 : Hid (∀ o ∈ os, o.blk.txs.length ≤ 100) := fun o ho => by
        obtain ⟨i, hi⟩ := List.mem_iff_getElem?.1 ho
        exact HALL.out i o (by have := (List.getElem?_eq_some_iff.1 hi).1; omega) hi
      by_cases hl : os.length ≤ 100
      · have hdl : decide ((os.length : Int) ≤ 100) = true := decide_eq_true (by omega)
        have hdl2 : decide (os.length ≤ 100) = true := decide_eq_true (by omega)
        have HE : Hid (FewP os w (.returned (.bool true)) wr) := ⟨_, rfl, fun _ => ⟨hl, HALL2.out⟩, HB0.out⟩
        go_wp2_with fail
        go_ret
        exact HE.out
      · have hdl : decide ((os.length : Int) ≤ 100) = false := decide_eq_false (by omega)
        have hdl2 : decide (os.length ≤ 100) = false := decide_eq_false (by omega)
        have HE : Hid (FewP os w (.returned (.bool false)) wr) := ⟨_, rfl, fun h => (by cases h), HB0.out⟩
        go_wp2_with fail
        go_ret
        exact HE.out
end Go.Proofs.Ytepemfgiigceoaa.Chn
