/- LAYER 12: the walk of the reference's IdOf. Conditions: texts of at most 2^40. -/
import Derived.Test.YtiahnoncionmkaaHexId
namespace Go.Proofs.Ytiahnoncionmkaa.HexW
open Go.RowKit Bld Go.Mir Go.Mir.Hx Go.Mir.Parts

theorem id_bytes (l : List UInt8) : (bytesL l = none → idL l = none) ∧ ∀ b, bytesL l = some b → idL l = if b = [] ∨ 32 < b.length ∨ (1 < b.length ∧ b[b.length - 1]? = some 0) then none else some (padId b) := by
  unfold bytesL
  by_cases h : l = [45]
  · subst h
    refine ⟨fun h => (by simp at h), fun b hb => ?_⟩
    simp at hb; subst hb; rfl
  · rw [if_neg h]
    by_cases h0 : l = []
    · subst h0; refine ⟨fun _ => rfl, fun b hb => (by simp at hb)⟩
    · rw [if_neg h0]
      refine ⟨fun hn => by unfold idL; rw [hn], fun b hb => by unfold idL; rw [hb]⟩
/-- an id, as far as it is filled -/
def part (b : List UInt8) (k : Nat) : List UInt8 := b.take k ++ List.replicate (32 - k) 0
theorem part_set (b : List UInt8) (k : Nat) (h : k < b.length) (h32 : k < 32) : (part b k).set k b[k] = part b (k + 1) := by
  unfold part
  have hl : (b.take k).length = k := by rw [List.length_take]; omega
  rw [List.set_append_right _ _ (by omega), hl, Nat.sub_self, show 32 - k = (32 - (k + 1)) + 1 by omega, List.replicate_succ, List.set_cons_zero, take_snoc b k h, List.append_assoc]; rfl
theorem part_end (b : List UInt8) (h : b.length ≤ 32) : part b b.length = padId b := by unfold part padId; rw [List.take_length]

theorem row_id {M : Array Value} {x : List UInt8} (hM : M.toList = bytesV x) (hx : x.length = 32) : M.size = 32 ∧ M.all (·.oneCell') = true := by
  refine ⟨by rw [← Array.length_toList, hM, bytesV_length, hx], ?_⟩
  have := all_oneCell_toArray (bytesV_one x)
  rw [← hM, Array.toArray_toList] at this; exact this
theorem part_length (b : List UInt8) (k : Nat) (h : k ≤ b.length) (h32 : k ≤ 32) : (part b k).length = 32 := by
  unfold part; rw [List.length_append, List.length_take, List.length_replicate]; omega
theorem part_row {M : Array Value} {b : List UInt8} {k : Nat} (hM : M.toList = bytesV (part b k)) (h : k < b.length) (h32 : k < 32) : (M.setIfInBounds k (.int .u8 (b[k].toNat : Int))).toList = bytesV (part b (k + 1)) := by
  rw [Array.toList_setIfInBounds, hM, ← part_set b k h h32]
  simp [bytesV, List.map_set]
set_option maxRecDepth 100000 in
set_option maxHeartbeats 400000 in
theorem rIdOf_any (l : List UInt8) (w : World) (hl : l.length ≤ 1099511627776) : Calls Try.prog 10 #[.string (S l)] w (IdP l w) := by
  have hz := zeroId
  have HIB := Lib.hid (id_bytes l)
  go_enter Try.func10, Try.ntmps10
  go_wp2_with fail
  have H2 := Lib.hid (two_allocs w (.cells Z32 23) (.cells Z32 23))
  generalize (w.alloc (.cells Z32 23)).alloc (.cells Z32 23) = w2 at *
  refine (rBytes_any l _ hl).mono ?_
  rintro e w3 ⟨hb3, ⟨b, p, c, hr, rfl, hB, hp⟩ | ⟨hr, rfl⟩⟩
  · have HR1 := Lib.hid (Below.keepOld hb3 H2.out.1)
    have HX := Lib.hid (Below.keepOld hb3 H2.out.2.1)
    have HB := Lib.hid (H2.out.2.2.2.trans (hb3.mono (by have := H2.out.2.2.1; omega)))
    have HI := Lib.hid (HIB.out.2 b hr)
    have HBS := Lib.hid hB
    have hle := hB.le
    have hmax := hB.max
    have HP : Hid (∀ a, p = some a → ¬ a.block = w.heap.size + 1) := fun a ha e => by have := hp a ha; have := H2.out.2.2.1; omega
    clear hb3 hr hB hp
    by_cases h0 : b.length = 0
    · have HN : Hid (idL l = none) := by show _ = _; rw [HI.out, if_pos (.inl (List.length_eq_zero_iff.1 h0))]
      have hq : ((b.length : Int) == 0) = true := by rw [beq_iff_eq]; omega
      clear h0
      go_wp2_with (first
        | refine wpList_load_row rfl 23 _ rfl (w.heap.size + 1) rfl 23 Z32 (0, 0) _ HX.out Try.underlying23 rfl (by rw [Z32_size]; kernel_rfl) ?_
        | refine wpList_store_row rfl 23 _ _ rfl w.heap.size Z32 rfl rfl 23 Z32 HR1.out (by rw [Z32_size]; kernel_rfl) rfl Z32_one ?_)
      have HS : Hid ((w3.setRow w.heap.size Z32).heap[w.heap.size]? = some (.cells Z32 23)) := setRow_heap w3 _ _ _ _ _ HR1.out
      have HBB : Hid (Below w.heap.size w (w3.setRow w.heap.size Z32)) := below_setRow HB.out (Nat.le_refl _) _
      refine bodyPost_ret (results_row_tmp rfl _ _ _ _ _ _ _ rfl HS.out Try.underlying23 rfl (by rw [Z32_size]; kernel_rfl)) rfl ?_
      exact ⟨HBB.out, .inr ⟨HN.out, Z32, Z32_list, rfl⟩⟩
    · have hq : ((b.length : Int) == 0) = false := by rw [beq_eq_false_iff_ne]; omega
      have HNE : Hid (b ≠ []) := fun e => h0 (by rw [e]; rfl)
      by_cases h32 : 32 < b.length
      · have HN : Hid (idL l = none) := by show _ = _; rw [HI.out, if_pos (.inr (.inl h32))]
        clear h0
        go_wp2_with (first
          | refine wpList_load_row rfl 23 _ rfl (w.heap.size + 1) rfl 23 Z32 (0, 0) _ HX.out Try.underlying23 rfl (by rw [Z32_size]; kernel_rfl) ?_
          | refine wpList_store_row rfl 23 _ _ rfl w.heap.size Z32 rfl rfl 23 Z32 HR1.out (by rw [Z32_size]; kernel_rfl) rfl Z32_one ?_)
        have HS : Hid ((w3.setRow w.heap.size Z32).heap[w.heap.size]? = some (.cells Z32 23)) := setRow_heap w3 _ _ _ _ _ HR1.out
        have HBB : Hid (Below w.heap.size w (w3.setRow w.heap.size Z32)) := below_setRow HB.out (Nat.le_refl _) _
        refine bodyPost_ret (results_row_tmp rfl _ _ _ _ _ _ _ rfl HS.out Try.underlying23 rfl (by rw [Z32_size]; kernel_rfl)) rfl ?_
        exact ⟨HBB.out, .inr ⟨HN.out, Z32, Z32_list, rfl⟩⟩
      · obtain ⟨pb, po, rfl⟩ := HBS.out.addr (by omega) (by omega)
        have hd32 : decide ((32 : Int) < (b.length : Int)) = false := by simp; omega
        have hlt : b.length - 1 < b.length := by omega
        clear h0
        have hc := Bs.byte HBS.out (j := b.length - 1) hlt
        have hcast : ((b.length - 1 : Nat) : Int) = (b.length : Int) - 1 := by omega
        by_cases hbad : 1 < b.length ∧ b[b.length - 1]? = some 0
        · have HN : Hid (idL l = none) := by show _ = _; rw [HI.out, if_pos (.inr (.inr hbad))]
          obtain ⟨h1, hl0⟩ := hbad
          have hd1 : decide ((1 : Int) < (b.length : Int)) = true := by simp; omega
          have hz0 : (((b[b.length - 1]'hlt).toNat : Int) == 0) = true := by
            rw [List.getElem?_eq_getElem hlt] at hl0
            rw [Option.some.inj hl0]; rfl
          clear hl0
          go_wp2_with (first
            | refine wpList_load_row rfl 23 _ rfl (w.heap.size + 1) rfl 23 Z32 (0, 0) _ HX.out Try.underlying23 rfl (by rw [Z32_size]; kernel_rfl) ?_
            | refine wpList_store_row rfl 23 _ _ rfl w.heap.size Z32 rfl rfl 23 Z32 HR1.out (by rw [Z32_size]; kernel_rfl) rfl Z32_one ?_)
          have HS : Hid ((w3.setRow w.heap.size Z32).heap[w.heap.size]? = some (.cells Z32 23)) := setRow_heap w3 _ _ _ _ _ HR1.out
          have HBB : Hid (Below w.heap.size w (w3.setRow w.heap.size Z32)) := below_setRow HB.out (Nat.le_refl _) _
          refine bodyPost_ret (results_row_tmp rfl _ _ _ _ _ _ _ rfl HS.out Try.underlying23 rfl (by rw [Z32_size]; kernel_rfl)) rfl ?_
          exact ⟨HBB.out, .inr ⟨HN.out, Z32, Z32_list, rfl⟩⟩
        · have HY : Hid (idL l = some (padId b)) := by
            show _ = _; rw [HI.out, if_neg]
            rintro (h | h | h)
            · exact HNE.out h
            · exact h32 h
            · exact hbad h
          have HBAD := Lib.hid hbad
          clear hbad
          by_cases h1 : 1 < b.length
          all_goals
            first
              | have hd1 : decide ((1 : Int) < (b.length : Int)) = true := decide_eq_true (by omega)
              | have hd1 : decide ((1 : Int) < (b.length : Int)) = false := decide_eq_false (by omega)
            have hz0 : 1 < b.length → (((b[b.length - 1]'hlt).toNat : Int) == 0) = false := fun h1 => by
              rw [beq_eq_false_iff_ne]; intro e
              refine HBAD.out ⟨h1, ?_⟩
              rw [List.getElem?_eq_getElem hlt]
              congr 1
              exact UInt8.toNat_inj.1 (by have h0 : (0 : UInt8).toNat = 0 := rfl; omega)
            try replace hz0 := hz0 h1
            go_wp2_with fail
            go_loopw [7] (fun j wr => ∃ (k : Nat) (X : Array Value), k ≤ b.length ∧ j = .int .i64 k ∧ wr.heap[w.heap.size + 1]? = some (.cells X 23 (0, 0)) ∧ X.toList = bytesV (part b k) ∧ wr.heap[w.heap.size]? = some (.cells Z32 23 (0, 0)) ∧ Bs wr (some ⟨pb, po, none⟩) b.length c b ∧ Below w.heap.size w wr) (fun j _ => b.length - (intOf j).toNat)
            case atStart => exact ⟨0, Z32, by omega, rfl, HX.out, Z32_list, HR1.out, HBS.out, HB.out⟩
            case round =>
              clear hc hz0
              obtain ⟨k, X, hk, rfl, hx, hxl, hr0, hbs, hbb⟩ := hrel
              have HXO := Lib.hid hx
              have HXL := Lib.hid hxl
              have HR2 := Lib.hid hr0
              have HBS2 := Lib.hid hbs
              have HBB := Lib.hid hbb
              have HSZ := Lib.hid (row_id hxl (part_length b k hk (by omega)))
              by_cases hkl : k < b.length
              · have hby := Bs.byte hbs (j := k) hkl
                have hxk : ∃ u, wr.cell? ⟨w.heap.size + 1, k, none⟩ = some u := by
                  refine ⟨_, (cell_of_row _ _ _ _ _ _ hx).trans (Array.getElem?_eq_getElem (by rw [HSZ.out.1]; omega))⟩
                obtain ⟨u, hu⟩ := hxk
                have hf : wr.frozen? ⟨w.heap.size + 1, k, none⟩ = false := frozen_of_row _ _ _ _ _ hx
                have hdk : decide ((k : Int) < (b.length : Int)) = true := decide_eq_true (by omega)
                clear hx hxl hr0 hbs hbb
                go_wp2_with fail
                go_roundw
                case rel =>
                  have ht := (Turns.refl (fun i => i = w.heap.size + 1) wr).setCell (p := ⟨w.heap.size + 1, k, none⟩) (fun _ => rfl) (.int .u8 ((b[k]'hkl).toNat : Int))
                  refine ⟨k + 1, _, by omega, by go_num, heap_setCell_same _ _ _ _ _ _ HXO.out, part_row HXL.out hkl (by omega), ht.keep HR2.out (fun e => ?_), HBS2.out.touch ht (fun a ha _ => HP.out a ha), HBB.out.setCell (Nat.le_succ _) _⟩
                  omega
                case measure => simp [intOf]; omega
              · have hkb : k = b.length := by omega
                have hdk : decide ((k : Int) < (b.length : Int)) = false := decide_eq_false (by omega)
                have HXL2 : Hid (X.toList = bytesV (padId b)) := by show _ = _; rw [hxl, hkb, part_end b (by omega)]
                have HXS := HSZ
                have HX := HXO
                have HR1 := HR2
                have HB := HBB
                clear hx hxl hr0 hbs hbb hkb
                go_wp2_with (first
                  | refine wpList_load_row rfl 23 _ rfl (w.heap.size + 1) rfl 23 X (0, 0) _ HX.out Try.underlying23 rfl (by rw [HXS.out.1]; kernel_rfl) ?_
                  | refine wpList_store_row rfl 23 _ _ rfl w.heap.size X rfl rfl 23 Z32 HR1.out (by rw [HXS.out.1]; kernel_rfl) (by rw [HXS.out.1]; exact Z32_size) HXS.out.2 ?_)
                have HS : Hid ((wr.setRow w.heap.size X).heap[w.heap.size]? = some (.cells X 23)) := setRow_heap wr _ _ _ _ _ HR1.out
                have HBB : Hid (Below w.heap.size w (wr.setRow w.heap.size X)) := below_setRow HB.out (Nat.le_refl _) _
                refine bodyPost_ret (results_row_tmp rfl _ _ _ _ _ _ _ rfl HS.out Try.underlying23 rfl (by rw [HXS.out.1]; kernel_rfl)) rfl ?_
                exact ⟨HBB.out, .inl ⟨padId b, X, HY.out, padId_length b (by omega), HXL2.out, rfl⟩⟩
  · have HR1 := Lib.hid (Below.keepOld hb3 H2.out.1)
    have HX := Lib.hid (Below.keepOld hb3 H2.out.2.1)
    have HB := Lib.hid (H2.out.2.2.2.trans (hb3.mono (by have := H2.out.2.2.1; omega)))
    have HN := Lib.hid (HIB.out.1 hr)
    clear hb3 hr
    go_wp2_with (first
      | refine wpList_load_row rfl 23 _ rfl (w.heap.size + 1) rfl 23 Z32 (0, 0) _ HX.out Try.underlying23 rfl (by rw [Z32_size]; kernel_rfl) ?_
      | refine wpList_store_row rfl 23 _ _ rfl w.heap.size Z32 rfl rfl 23 Z32 HR1.out (by rw [Z32_size]; kernel_rfl) rfl Z32_one ?_)
    have HS : Hid ((w3.setRow w.heap.size Z32).heap[w.heap.size]? = some (.cells Z32 23)) := setRow_heap w3 _ _ _ _ _ HR1.out
    have HBB : Hid (Below w.heap.size w (w3.setRow w.heap.size Z32)) := below_setRow HB.out (Nat.le_refl _) _
    refine bodyPost_ret (results_row_tmp rfl _ _ _ _ _ _ _ rfl HS.out Try.underlying23 rfl (by rw [Z32_size]; kernel_rfl)) rfl ?_
    exact ⟨HBB.out, .inr ⟨HN.out, Z32, Z32_list, rfl⟩⟩
end Go.Proofs.Ytiahnoncionmkaa.HexW
