/- THE WALKS OF BLOCKS, on: are two the same? Conditions: as in the first part. -/
import Derived.Test.YtdaigkcbmdcbcaaDoorBlk4
namespace Go.Proofs.YtdaigkcbmdcbcaaDoor.Blk
open Go.RowKit Go.Mir Go.Mir.Parts

theorem bretd {a b : Bool} (h : a = b) : Ending.returned (.bool a) = .returned (.bool b) := by rw [h]
theorem range_grown_row {w : World} {b : Nat} {A : Array Value} {t : TypeId} {fr : Nat × Nat} (h : w.heap[b]? = some (.cells A t fr)) (z : Grown w) : z.v.rangeAt b 0 A.toList :=
  range_grown (fun j v hv => by rw [cell_of_row _ _ _ _ _ _ h, ← Array.getElem?_toList, Nat.zero_add]; exact hv) z
theorem take_eq_step {a b : List (List UInt8)} {k : Nat} (h : a.take k = b.take k) (ha : k < a.length) (hb : k < b.length) (e : a[k] = b[k]) : a.take (k + 1) = b.take (k + 1) := by
  rw [take_snoc a k ha, take_snoc b k hb, h, e]

set_option maxRecDepth 100000 in
set_option maxHeartbeats 400000 in
theorem idsSame_any (p p2 : Option Addr) (n c n2 c2 : Nat) (la lb : List (List UInt8)) (w : World) (hA : Is w p n c 32 la) (hB : Is w p2 n2 c2 32 lb) :
    Calls Tryd.prog 40 #[.slice p n c, .slice p2 n2 c2] w fun e w' => e = .returned (.bool (la == lb)) ∧ Below w.heap.size w w' := by
  have HA := Lib.hid hA
  have HB := Lib.hid hB
  have ha := hA.sl.le
  have hb := hB.sl.le
  have ham := hA.sl.max
  have hbm := hB.sl.max
  obtain rfl : la.length = n := hA.count
  obtain rfl : lb.length = n2 := hB.count
  clear hA hB
  by_cases hl : la.length = lb.length
  · have hlen : ((la.length : Int) == (lb.length : Int)) = true := by rw [beq_iff_eq]; omega
    have hlen2 : ((la.length : Int) != (lb.length : Int)) = false := by rw [bne_eq_false_iff_eq]; omega
    have HL := Lib.hid hl
    clear hl
    go_enter Tryd.func40, Tryd.ntmps40
    go_wp2_with fail
    go_loopw [5] (fun j wr => ∃ k : Nat, k ≤ la.length ∧ j = .int .i64 k ∧ la.take k = lb.take k ∧ Below w.heap.size w wr) (fun j _ => la.length - (intOf j).toNat)
    case atStart => exact ⟨0, by omega, rfl, rfl, Below.refl _ _⟩
    case round =>
      obtain ⟨k, hk, rfl, heq, hbw⟩ := hrel
      have HEQ := Lib.hid heq
      have HBW := Lib.hid hbw
      clear heq hbw
      by_cases hlt : k < la.length
      · have hlt2 : k < lb.length := by rw [← HL.out]; exact hlt
        obtain ⟨b, o, rfl⟩ := HA.out.sl.addr (by omega) (by omega)
        obtain ⟨b2, o2, rfl⟩ := HB.out.sl.addr (by omega) (by omega)
        have HRA := Lib.hid (range_grown ((HA.out.below HBW.out).range (by omega) k hlt))
        have HRB := Lib.hid (range_grown ((HB.out.below HBW.out).range (by omega) k hlt2))
        have HLA : Hid ((la[k]'hlt).length = 32) := HA.out.each _ (List.getElem_mem _)
        have HLB : Hid ((lb[k]'hlt2).length = 32) := HB.out.each _ (List.getElem_mem _)
        have HST : Hid (la[k]'hlt = lb[k]'hlt2 → la.take (k + 1) = lb.take (k + 1)) := fun e => take_eq_step HEQ.out hlt hlt2 e
        have HNE : Hid (¬ la[k]'hlt = lb[k]'hlt2 → (la == lb) = false) := fun h => by
          rw [beq_eq_false_iff_ne]; intro e; subst e; exact h rfl
        generalize la[k]'hlt = x at *
        generalize lb[k]'hlt2 = y at *
        have hq : ∀ w, (Op.equalIn 10000 23 (.agg (idA x)) (.agg (idA y))).run Tryd.prog w = .ok (x == y) w := fun w => eqI w _ _ HLA.out HLB.out
        have hd : decide ((k : Int) < (la.length : Int)) = true := decide_eq_true (by omega)
        by_cases hxy : x = y
        · have hbq : (x == y) = true := by rw [beq_iff_eq]; exact hxy
          have HN := Lib.hid (HST.out hxy)
          clear hxy
          go_wp2_with fail
          refine wp_region_grow (by kernel_rfl) (by kernel_rfl) ?_
          repeat (first
            | refine wpQuiet_load rfl 23 _ rfl b (o + k * 32) rfl (idA x) _ HRA.out Tryd.underlying23 rfl (infoI _ (by rw [idA_size, HLA.out])) ?_
            | refine wpQuiet_load rfl 23 _ rfl b2 (o2 + k * 32) rfl (idA y) _ HRB.out Tryd.underlying23 rfl (infoI _ (by rw [idA_size, HLB.out])) ?_
            | quiet_step (fail))
          refine wpQuiet_nil ?_
          intro w3 hb3
          have HB3 := Lib.hid (HBW.out.trans (hb3.mono HBW.out.size))
          clear hb3 hq
          go_wp2_with fail
          go_roundw
          case rel => exact ⟨k + 1, by omega, by go_num, HN.out, HB3.out⟩
          case measure => simp [intOf]; omega
        · have hbq : (x == y) = false := by rw [beq_eq_false_iff_ne]; exact hxy
          have HN := Lib.hid (HNE.out hxy)
          clear hxy
          go_wp2_with fail
          refine wp_region_grow (by kernel_rfl) (by kernel_rfl) ?_
          repeat (first
            | refine wpQuiet_load rfl 23 _ rfl b (o + k * 32) rfl (idA x) _ HRA.out Tryd.underlying23 rfl (infoI _ (by rw [idA_size, HLA.out])) ?_
            | refine wpQuiet_load rfl 23 _ rfl b2 (o2 + k * 32) rfl (idA y) _ HRB.out Tryd.underlying23 rfl (infoI _ (by rw [idA_size, HLB.out])) ?_
            | quiet_step (fail))
          refine wpQuiet_nil ?_
          intro w3 hb3
          have HB3 := Lib.hid (HBW.out.trans (hb3.mono HBW.out.size))
          clear hb3 hq
          go_wp2_with fail
          go_ret
          exact ⟨bretd HN.out.symm, HB3.out⟩
      · have HR : Hid ((la == lb) = true) := by
          show _ = _
          have h1 := HEQ.out
          rw [List.take_of_length_le (by omega), List.take_of_length_le (by rw [← HL.out]; omega)] at h1
          rw [beq_iff_eq]; exact h1
        have hd : decide ((k : Int) < (la.length : Int)) = false := decide_eq_false (by omega)
        go_wp2_with fail
        go_ret
        exact ⟨bretd HR.out.symm, HBW.out⟩
  · have hlen : ((la.length : Int) == (lb.length : Int)) = false := by rw [beq_eq_false_iff_ne]; omega
    have HR : Hid ((la == lb) = false) := by
      show _ = _
      rw [beq_eq_false_iff_ne]; intro e; exact hl (by rw [e])
    clear hl
    go_enter Tryd.func40, Tryd.ntmps40
    go_wp2_with fail
    go_ret
    exact ⟨bretd HR.out.symm, Below.refl _ _⟩

/-- are two blocks the same? -/
def sameB (d d2 : BlkD) : Bool := d.hash == d2.hash && d.par == d2.par && d.txs == d2.txs
set_option maxRecDepth 100000 in
set_option maxHeartbeats 400000 in
theorem rSame_any (M M2 : Array Value) (d d2 : BlkD) (q q2 : Option Addr) (n c n2 c2 : Nat) (w : World) (hM : BlkAt w M d q n c) (hM2 : BlkAt w M2 d2 q2 n2 c2) :
    Calls Tryd.prog 15 #[.agg M, .agg M2] w fun e w' => e = .returned (.bool (sameB d d2)) ∧ Below w.heap.size w w' := by
  have H2 := Lib.hid (two_allocs w (.cells M 26) (.cells M2 26))
  have HP := Lib.hid (hM.parts H2.out.1)
  have HP2 := Lib.hid (hM2.parts H2.out.2.1)
  have HA : Hid (d.hash.length = 32 ∧ d.par.length = 32 ∧ d2.hash.length = 32 ∧ d2.par.length = 32) := ⟨hM.hlen, hM.plen, hM2.hlen, hM2.plen⟩
  have HI := Lib.hid (hM.ids.below H2.out.2.2.2)
  have HI2 := Lib.hid (hM2.ids.below H2.out.2.2.2)
  have hc := HP.out.2.2
  have hc2 := HP2.out.2.2
  have hq : ∀ w, (Op.equalIn 10000 23 (.agg (idA d.hash)) (.agg (idA d2.hash))).run Tryd.prog w = .ok (d.hash == d2.hash) w := fun w => eqI w _ _ HA.out.1 HA.out.2.2.1
  have hq2 : ∀ w, (Op.equalIn 10000 23 (.agg (idA d.par)) (.agg (idA d2.par))).run Tryd.prog w = .ok (d.par == d2.par) w := fun w => eqI w _ _ HA.out.2.1 HA.out.2.2.2
  clear hM hM2
  by_cases h1 : d.hash = d2.hash
  · have hb1 : (d.hash == d2.hash) = true := by rw [beq_iff_eq]; exact h1
    by_cases h2 : d.par = d2.par
    · have hb2 : (d.par == d2.par) = true := by rw [beq_iff_eq]; exact h2
      have HR : Hid (sameB d d2 = (d.txs == d2.txs)) := by show _ = _; unfold sameB; rw [hb1, hb2]; rfl
      have HB1 := Lib.hid hb1
      clear h1 h2
      go_enter Tryd.func15, Tryd.ntmps15
      go_wp2_with (first
        | refine wpList_load_mid rfl 23 _ rfl w.heap.size 0 rfl (idA d.hash).toList _ HP.out.1 Tryd.underlying23 rfl (infoI _ (by rw [Array.length_toList, idA_size, HA.out.1])) ?_
        | refine wpList_load_mid rfl 23 _ rfl (w.heap.size + 1) 0 rfl (idA d2.hash).toList _ HP2.out.1 Tryd.underlying23 rfl (infoI _ (by rw [Array.length_toList, idA_size, HA.out.2.2.1])) ?_
        | refine wpList_unguard rfl (wpList_load_mid rfl 23 _ rfl w.heap.size 32 rfl (idA d.par).toList _ HP.out.2.1 Tryd.underlying23 rfl (infoI _ (by rw [Array.length_toList, idA_size, HA.out.2.1])) ?_)
        | refine wpList_unguard rfl (wpList_load_mid rfl 23 _ rfl (w.heap.size + 1) 32 rfl (idA d2.par).toList _ HP2.out.2.1 Tryd.underlying23 rfl (infoI _ (by rw [Array.length_toList, idA_size, HA.out.2.2.2])) ?_))
      refine (idsSame_any _ _ _ _ _ _ _ _ _ HI.out HI2.out).mono ?_
      rintro e w3 ⟨rfl, hb3⟩
      have HB3 := Lib.hid (H2.out.2.2.2.trans (hb3.mono H2.out.2.2.2.size))
      clear hb3 hc hc2 hq hq2
      generalize hT : (d.txs == d2.txs) = T at *
      have HT := Lib.hid hT
      clear hT
      go_wp2_with fail
      go_ret
      exact ⟨bretd HR.out.symm, HB3.out⟩
    · have hb2 : (d.par == d2.par) = false := by rw [beq_eq_false_iff_ne]; exact h2
      have HR : Hid (sameB d d2 = false) := by show _ = _; unfold sameB; rw [hb2]; simp
      clear h1 h2
      go_enter Tryd.func15, Tryd.ntmps15
      go_wp2_with (first
        | refine wpList_load_mid rfl 23 _ rfl w.heap.size 0 rfl (idA d.hash).toList _ HP.out.1 Tryd.underlying23 rfl (infoI _ (by rw [Array.length_toList, idA_size, HA.out.1])) ?_
        | refine wpList_load_mid rfl 23 _ rfl (w.heap.size + 1) 0 rfl (idA d2.hash).toList _ HP2.out.1 Tryd.underlying23 rfl (infoI _ (by rw [Array.length_toList, idA_size, HA.out.2.2.1])) ?_
        | refine wpList_unguard rfl (wpList_load_mid rfl 23 _ rfl w.heap.size 32 rfl (idA d.par).toList _ HP.out.2.1 Tryd.underlying23 rfl (infoI _ (by rw [Array.length_toList, idA_size, HA.out.2.1])) ?_)
        | refine wpList_unguard rfl (wpList_load_mid rfl 23 _ rfl (w.heap.size + 1) 32 rfl (idA d2.par).toList _ HP2.out.2.1 Tryd.underlying23 rfl (infoI _ (by rw [Array.length_toList, idA_size, HA.out.2.2.2])) ?_))
      go_ret
      exact ⟨bretd HR.out.symm, H2.out.2.2.2⟩
  · have hb1 : (d.hash == d2.hash) = false := by rw [beq_eq_false_iff_ne]; exact h1
    have HR : Hid (sameB d d2 = false) := by show _ = _; unfold sameB; rw [hb1]; simp
    clear h1
    go_enter Tryd.func15, Tryd.ntmps15
    go_wp2_with (first
      | refine wpList_load_mid rfl 23 _ rfl w.heap.size 0 rfl (idA d.hash).toList _ HP.out.1 Tryd.underlying23 rfl (infoI _ (by rw [Array.length_toList, idA_size, HA.out.1])) ?_
      | refine wpList_load_mid rfl 23 _ rfl (w.heap.size + 1) 0 rfl (idA d2.hash).toList _ HP2.out.1 Tryd.underlying23 rfl (infoI _ (by rw [Array.length_toList, idA_size, HA.out.2.2.1])) ?_)
    go_ret
    exact ⟨bretd HR.out.symm, H2.out.2.2.2⟩
end Go.Proofs.YtdaigkcbmdcbcaaDoor.Blk
