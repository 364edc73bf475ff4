/- FRAMES: the reference's Same: are lists of bytes the same? Conditions: none. -/
import Derived.Test.YtjbjlmdfgpoadaaDoorFrm10
import Derived.Test.YtjbjlmdfgpoadaaDoorEager2
namespace Go.Proofs.YtjbjlmdfgpoadaaDoor.Frm
open Go.RowKit Go.Mir Go.Mir.Parts Wr Cod Cut Rdr

theorem bs_block {w : World} {p : Option Addr} {n c : Nat} {l : List UInt8} (h : Bs w p n c l) : 0 < n → ∀ a, p = some a → a.block < w.heap.size := fun h0 a ha => by
  obtain ⟨b, o, rfl⟩ := h.addr h0 (by omega)
  obtain rfl := Option.some.inj ha
  exact block_lt_of_cell (Bs.byte h (j := 0) (by have := h.length; omega))
set_option maxRecDepth 100000 in
set_option maxHeartbeats 1600000 in
theorem same_any (p p2 : Option Addr) (n c n2 c2 : Nat) (la lb : List (List UInt8)) (w : World) (hA : Pts w p n c la) (hB : Pts w p2 n2 c2 lb) :
    Calls Tryd.prog 14 #[.slice p n c, .slice p2 n2 c2] w fun e w' => e = .returned (.bool (la == lb)) ∧ Below w.heap.size w w' := by
  have HA := Lib.hid hA
  have HB := Lib.hid hB
  have ha := hA.le
  have hb := hB.le
  have ham := hA.max
  have hbm := hB.max
  obtain rfl : la.length = n := hA.len
  obtain rfl : lb.length = n2 := hB.len
  clear hA hB
  by_cases hl : la.length = lb.length
  · have hlen : ((la.length : Int) == (lb.length : Int)) = true := by rw [beq_iff_eq]; omega
    have hlen2 : ((la.length : Int) != (lb.length : Int)) = false := by rw [bne_eq_false_iff_eq]; omega
    have HL := Lib.hid hl
    clear hl
    go_enter Tryd.func14, Tryd.ntmps14
    go_wp2_with fail
    go_loopw [5] (fun j wr => ∃ k : Nat, k ≤ la.length ∧ j = .int .i64 k ∧ la.take k = lb.take k ∧ Below w.heap.size w wr) (fun j _ => la.length - (intOf j).toNat)
    case atStart => exact ⟨0, by omega, rfl, rfl, Below.refl _ _⟩
    case round =>
      obtain ⟨k, hk, rfl, heq, hbw⟩ := hrel
      have HEQ := Lib.hid heq
      have HBW := Lib.hid hbw
      clear heq hbw
      by_cases hlt : k < la.length
      · have hlt2 : k < lb.length := by rw [← HL.out]; exact hlt
        obtain ⟨b, o, rfl⟩ := HA.out.addr (by omega)
        obtain ⟨b2, o2, rfl⟩ := HB.out.addr (by omega)
        obtain ⟨q, m, d, e1, f1⟩ := (HA.out.below HBW.out).cell _ rfl k hlt
        obtain ⟨q2, m2, d2, e2, f2⟩ := (HB.out.below HBW.out).cell _ rfl k hlt2
        rw [add_none] at e1 e2
        have HST : Hid (la[k]'hlt = lb[k]'hlt2 → la.take (k + 1) = lb.take (k + 1)) := fun e => by rw [take_snoc la k hlt, take_snoc lb k hlt2, HEQ.out, e]
        have HNE : Hid (¬ la[k]'hlt = lb[k]'hlt2 → (la == lb) = false) := fun h => by
          rw [beq_eq_false_iff_ne]; intro e; subst e; exact h rfl
        generalize la[k]'hlt = x at *
        generalize lb[k]'hlt2 = y at *
        have hd : decide ((k : Int) < (la.length : Int)) = true := decide_eq_true (by omega)
        have HE1 : Hid (∀ w', Below wr.heap.size wr w' → w'.cell? ⟨b, o + k, none⟩ = some (.slice q m d)) := fun w' hb => cell_below e1 hb
        have HE2 : Hid (∀ w', Below wr.heap.size wr w' → w'.cell? ⟨b2, o2 + k, none⟩ = some (.slice q2 m2 d2)) := fun w' hb => cell_below e2 hb
        have HC1 : Hid (∀ w', Below wr.heap.size wr w' → (convert 22 9 (.slice q m d)).run Tryd.prog w' = .ok (.string (S x)) w') := fun w' hb => bconv (f1.below hb)
        have HC2 : Hid (∀ w', Below wr.heap.size wr w' → (convert 22 9 (.slice q2 m2 d2)).run Tryd.prog w' = .ok (.string (S y)) w') := fun w' hb => bconv (f2.below hb)
        clear e1 e2 f1 f2
        go_wp2_with fail
        refine wp_region_eager [(0, true), (1, true), (2, true), (3, true), (4, true), (5, true), (6, true), (7, true), (8, true), (9, true), (10, true)] (by kernel_rfl) (by kernel_rfl) (eagerOpen rfl ?_)
        repeat (first
          | (first | (apply wpEager_take; (· rfl); (· (intro w' hb'; go_simp; try with_reducible rfl)); (try simp only [Act.put, List.setIfInBounds_toArray, List.set_cons_zero, List.set_cons_succ]); (try refine eagerOpen rfl ?_)) | (refine wpEager_skip (by rfl) ?_; (try simp only [Act.put, List.setIfInBounds_toArray, List.set_cons_zero, List.set_cons_succ]); (try refine eagerOpen rfl ?_)) | (refine wpEager_off (by rfl) ?_; (try simp only [Act.put, List.setIfInBounds_toArray, List.set_cons_zero, List.set_cons_succ]); (try refine eagerOpen rfl ?_)))
          | (apply wpEager_take; (· rfl); (· (intro w' hb'; have hk' := (fun w' hb => HE1.out w' hb) w' hb'; go_split_ands; go_simp; try with_reducible rfl)); (try simp only [Act.put, List.setIfInBounds_toArray, List.set_cons_zero, List.set_cons_succ]); (try refine eagerOpen rfl ?_))
          | (apply wpEager_take; (· rfl); (· (intro w' hb'; have hk' := (fun w' hb => HE2.out w' hb) w' hb'; go_split_ands; go_simp; try with_reducible rfl)); (try simp only [Act.put, List.setIfInBounds_toArray, List.set_cons_zero, List.set_cons_succ]); (try refine eagerOpen rfl ?_))
          | (apply wpEager_take; (· rfl); (· (intro w' hb'; have hk' := (fun w' hb => HC1.out w' hb) w' hb'; go_split_ands; go_simp; try with_reducible rfl)); (try simp only [Act.put, List.setIfInBounds_toArray, List.set_cons_zero, List.set_cons_succ]); (try refine eagerOpen rfl ?_))
          | (apply wpEager_take; (· rfl); (· (intro w' hb'; have hk' := (fun w' hb => HC2.out w' hb) w' hb'; go_split_ands; go_simp; try with_reducible rfl)); (try simp only [Act.put, List.setIfInBounds_toArray, List.set_cons_zero, List.set_cons_succ]); (try refine eagerOpen rfl ?_)))
        refine eagerEnd ?_
        have HBD : Hid (Below w.heap.size w wr.drew) := HBW.out.trans ((below_drew1 _ _).mono HBW.out.size)
        clear HE1 HE2 HC1 HC2
        by_cases hxy : x = y
        · have hbq : (x == y) = true := by rw [beq_iff_eq]; exact hxy
          have HN := Lib.hid (HST.out hxy)
          clear hxy
          rw [hbq]
          simp only [Bool.not_true, Bool.not_false]
          go_wp2_with fail
          go_roundw
          case rel => exact ⟨k + 1, by omega, by go_num, HN.out, HBD.out⟩
          case measure => simp [intOf]; omega
        · have hbq : (x == y) = false := by rw [beq_eq_false_iff_ne]; exact hxy
          have HN := Lib.hid (HNE.out hxy)
          clear hxy
          rw [hbq]
          simp only [Bool.not_true, Bool.not_false]
          go_wp2_with fail
          go_ret
          exact ⟨by rw [HN.out]; rfl, HBD.out⟩
      · have HR : Hid ((la == lb) = true) := by
          show _ = _
          have h1 := HEQ.out
          rw [List.take_of_length_le (by omega), List.take_of_length_le (by rw [← HL.out]; omega)] at h1
          rw [beq_iff_eq]; exact h1
        have hd : decide ((k : Int) < (la.length : Int)) = false := decide_eq_false (by omega)
        go_wp2_with fail
        go_ret
        exact ⟨by rw [HR.out]; rfl, HBW.out⟩
  · have hlen : ((la.length : Int) == (lb.length : Int)) = false := by rw [beq_eq_false_iff_ne]; omega
    have HR : Hid ((la == lb) = false) := by
      show _ = _
      rw [beq_eq_false_iff_ne]; intro e; exact hl (by rw [e])
    clear hl
    go_enter Tryd.func14, Tryd.ntmps14
    go_wp2_with fail
    go_ret
    exact ⟨by rw [HR.out]; rfl, Below.refl _ _⟩
end Go.Proofs.YtjbjlmdfgpoadaaDoor.Frm
