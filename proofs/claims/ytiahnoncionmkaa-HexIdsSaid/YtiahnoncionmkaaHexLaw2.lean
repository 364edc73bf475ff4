/- LAYER 12: the walk of HexIds. Conditions: none. -/
import Derived.Test.YtiahnoncionmkaaHexLaw
namespace Go.Proofs.Ytiahnoncionmkaa.HexW
open Go.RowKit Bld Go.Mir Go.Mir.Hx Go.Mir.Parts

theorem idText_len (x : List UInt8) (h : x.length = 32) : (idText x).length ≤ 64 := by
  unfold idText; rw [pairsL_length, List.length_take]; omega
theorem idL_text (x : List UInt8) (h : x.length = 32) : idL (idText x) = some x := by
  have hb := trimN_bounds x 32
  have hr : readL (idText x) = some (x.take (trimN x 32)) := readL_pairs _
  have hl : (x.take (trimN x 32)).length = trimN x 32 := by rw [List.length_take]; omega
  have hne : idText x ≠ [] := fun e => by
    have := congrArg List.length e
    unfold idText at this
    rw [pairsL_length, hl, List.length_nil] at this
    have := hb.2 (by omega); omega
  rw [(id_cases _ _ hr hne).2 (by omega), pad_trim x h, if_pos rfl]
theorem idText_of (l x : List UInt8) (h : idL l = some x) : idText x = l := by
  unfold idL at h
  cases hr : readL l with
  | none => rw [hr] at h; cases h
  | some b =>
    rw [hr] at h
    simp only at h
    split at h
    · cases h
    · rename_i hc
      have hne : l ≠ [] := fun e => hc (.inl (by rw [e] at hr; simp [readL] at hr; exact hr))
      obtain rfl := Option.some.inj h
      have h2 := (id_cases l b hr hne).2 (by
        by_cases h3 : b.length ≤ 32
        · exact h3
        · exact absurd (.inr (.inl (by omega))) hc)
      by_cases h4 : idText (padId b) = l
      · exact h4
      · rw [if_neg h4] at h2
        unfold idL at h2; rw [hr] at h2; simp only at h2; rw [if_neg hc] at h2; cases h2

set_option maxRecDepth 100000 in
theorem hexIds_out (M : Array Value) (l : List UInt8) (w : World) (hl : l.length ≤ 9223372036854775807) (h : 1000 < l.length) :
    Calls Try.prog 3 #[.agg M, .string (S l)] w fun e w' => e = .returned (.bool true) ∧ Below w.heap.size w w' := by
  have hd2 : decide ((1000 : Int) < (l.length : Int)) = true := decide_eq_true (by omega)
  clear h
  go_enter Try.func3, Try.ntmps3
  go_wp2_with fail
  refine (alive_any _).mono ?_
  rintro e w1 ⟨rfl, hb1⟩
  have HB1 := Lib.hid (below_call (Below.refl _ _) (Below.allocs _ _) hb1)
  clear hb1
  go_wp2_with fail
  go_ret
  exact ⟨rfl, HB1.out⟩
/-- two ids compared -/
theorem eq_id (w : World) (A B : Array Value) (a b : List UInt8) (hA : A.toList = bytesV a) (hB : B.toList = bytesV b) (ha : a.length = 32) (hb : b.length = 32) : (Op.equalIn 10000 23 (.agg A) (.agg B)).run Try.prog w = .ok (a == b) w := by
  have h1 : A = (bytesV a).toArray := by rw [← hA, Array.toArray_toList]
  have h2 : B = (bytesV b).toArray := by rw [← hB, Array.toArray_toList]
  rw [h1, h2]
  exact run_equal_bytes w 9998 Try.underlying23 Try.underlying5 (Option.isSome_iff_exists.1 (by kernel_rfl)) (by kernel_rfl) (by kernel_rfl) a b ha hb

set_option maxRecDepth 100000 in
set_option maxHeartbeats 800000 in
theorem hexIds_in (M : Array Value) (x l : List UInt8) (w : World) (hM : M.toList = bytesV x) (hx : x.length = 32) (hl : l.length ≤ 1000) :
    Calls Try.prog 3 #[.agg M, .string (S l)] w fun e w' => e = .returned (.bool true) ∧ Below w.heap.size w w' := by
  have hd2 : decide ((1000 : Int) < (l.length : Int)) = false := decide_eq_false (by omega)
  have hz := zeroId
  have HM := Lib.hid hM
  have HX := Lib.hid hx
  have HMS := Lib.hid (row_id hM hx)
  clear hM hx
  go_enter Try.func3, Try.ntmps3
  have HR : Hid ((w.alloc (.cells M 23)).heap[w.heap.size]? = some (.cells M 23)) := heap_alloc_last _ _
  have HB : Hid (Below w.heap.size w (w.alloc (.cells M 23))) := Below.allocs _ _
  go_wp2_with (refine wpList_load_row rfl 23 _ rfl w.heap.size rfl 23 M (0, 0) _ HR.out Try.underlying23 rfl (by rw [HMS.out.1]; kernel_rfl) ?_)
  generalize w.alloc (.cells M 23) = w0 at *
  refine (idText_any M x _ HM.out HX.out).mono ?_
  rintro e w1 ⟨rfl, hb1⟩
  have HR1 := Lib.hid (Below.keepOld hb1 HR.out)
  have HB1 := Lib.hid (HB.out.trans (hb1.mono HB.out.size))
  clear hb1
  go_wp2_with fail
  refine (idOf_any (idText x) _ (by have := idText_len x HX.out; omega)).mono ?_
  rintro e w2 ⟨hb2, ⟨y, M2, hy, hyl, hM2, rfl⟩ | ⟨hy, _⟩⟩
  · rw [idL_text x HX.out] at hy
    obtain rfl := Option.some.inj hy
    have HR2 := Lib.hid (Below.keepOld hb2 HR1.out)
    have HB2 := Lib.hid (HB1.out.trans (hb2.mono HB1.out.size))
    have HM2 := Lib.hid hM2
    have HMS2 := Lib.hid (row_id hM2 hyl)
    clear hb2 hy hyl hM2
    have HZR : Hid ((w2.alloc (.cells Z32 23)).heap[w2.heap.size]? = some (.cells Z32 23)) := heap_alloc_last _ _
    have hl3 : Below w2.heap.size w2 ((w2.alloc (.cells Z32 23)).setRow w2.heap.size M2) := below_setRow (Below.allocs _ _) (Nat.le_refl _) _
    have HR3 := Lib.hid (Below.keepOld hl3 HR2.out)
    have HX3 : Hid (((w2.alloc (.cells Z32 23)).setRow w2.heap.size M2).heap[w2.heap.size]? = some (.cells M2 23)) := setRow_heap _ _ _ _ _ _ HZR.out
    have HB3 := Lib.hid (HB2.out.trans (hl3.mono HB2.out.size))
    clear hl3
    go_wp2_with (first
      | refine wpList_store_row rfl 23 _ _ rfl w2.heap.size M2 rfl rfl 23 Z32 HZR.out (by rw [HMS2.out.1]; kernel_rfl) (by rw [HMS2.out.1]; exact Z32_size) HMS2.out.2 ?_
      | refine wpList_load_row rfl 23 _ rfl w.heap.size rfl 23 M (0, 0) _ HR3.out Try.underlying23 rfl (by rw [HMS.out.1]; kernel_rfl) ?_)
    generalize (w2.alloc (.cells Z32 23)).setRow w2.heap.size M2 = w3 at *
    refine (rId_any M x _ HM.out HX.out).mono ?_
    rintro e w4 ⟨rfl, hb4⟩
    have HR4 := Lib.hid (Below.keepOld hb4 HR3.out)
    have HX4 := Lib.hid (Below.keepOld hb4 HX3.out)
    have HB4 := Lib.hid (HB3.out.trans (hb4.mono HB3.out.size))
    have heq := eq_id w4 M2 M x x HM2.out HM.out HX.out HX.out
    clear hb4
    go_wp2_with (first
      | refine wpList_load_row_g rfl 23 _ rfl w.heap.size rfl 23 M (0, 0) _ HR4.out Try.underlying23 rfl (by rw [HMS.out.1]; kernel_rfl) ?_
      | refine wpList_load_row_g rfl 23 _ rfl w2.heap.size rfl 23 M2 (0, 0) _ HX4.out Try.underlying23 rfl (by rw [HMS2.out.1]; kernel_rfl) ?_)
    refine (idOf_any l _ (by omega)).mono ?_
    rintro e w5 ⟨hb5, ⟨z, M5, hy5, hzl, hM5, rfl⟩ | ⟨hy5, M5, hM5, rfl⟩⟩
    · have HY5 := Lib.hid hy5
      have HT5 := Lib.hid (idText_of l z hy5)
      clear heq
      have HMS5 := Lib.hid (row_id hM5 hzl)
      have HM5 := Lib.hid hM5
      have HB5 := Lib.hid (HB4.out.trans (hb5.mono HB4.out.size))
      clear hb5 hy5
      have HZR5 : Hid ((w5.alloc (.cells Z32 23)).heap[w5.heap.size]? = some (.cells Z32 23)) := heap_alloc_last _ _
      have hl6 : Below w5.heap.size w5 ((w5.alloc (.cells Z32 23)).setRow w5.heap.size M5) := below_setRow (Below.allocs _ _) (Nat.le_refl _) _
      have HX6 : Hid (((w5.alloc (.cells Z32 23)).setRow w5.heap.size M5).heap[w5.heap.size]? = some (.cells M5 23)) := setRow_heap _ _ _ _ _ _ HZR5.out
      have HB6 := Lib.hid (HB5.out.trans (hl6.mono HB5.out.size))
      clear hl6
      go_wp2_with (refine wpList_store_row rfl 23 _ _ rfl w5.heap.size M5 rfl rfl 23 Z32 HZR5.out (by rw [HMS5.out.1]; kernel_rfl) (by rw [HMS5.out.1]; exact Z32_size) HMS5.out.2 ?_)
      generalize (w5.alloc (.cells Z32 23)).setRow w5.heap.size M5 = w6 at *
      refine (rIdOf_any l _ (by omega)).mono ?_
      rintro e w7 ⟨hb7, ⟨z2, M7, hy7, _, hM7, rfl⟩ | ⟨hy7, _⟩⟩
      · rw [HY5.out] at hy7
        obtain rfl := Option.some.inj hy7
        have HX7 := Lib.hid (Below.keepOld hb7 HX6.out)
        have HB7 := Lib.hid (HB6.out.trans (hb7.mono HB6.out.size))
        have HMS7 := Lib.hid (row_id hM7 hzl)
        have HM7 := Lib.hid hM7
        clear hb7 hy7 hM7 hM5
        have HZR7 : Hid ((w7.alloc (.cells Z32 23)).heap[w7.heap.size]? = some (.cells Z32 23)) := heap_alloc_last _ _
        have hl8 : Below w7.heap.size w7 ((w7.alloc (.cells Z32 23)).setRow w7.heap.size M7) := below_setRow (Below.allocs _ _) (Nat.le_refl _) _
        have HX8 := Lib.hid (Below.keepOld hl8 HX7.out)
        have HY8 : Hid (((w7.alloc (.cells Z32 23)).setRow w7.heap.size M7).heap[w7.heap.size]? = some (.cells M7 23)) := setRow_heap _ _ _ _ _ _ HZR7.out
        have HB8 := Lib.hid (HB7.out.trans (hl8.mono HB7.out.size))
        clear hl8
        have heq2 : ∀ wx, (Op.equalIn 10000 23 (.agg M5) (.agg M7)).run Try.prog wx = .ok (z == z) wx := fun wx => eq_id wx M5 M7 _ _ HM5.out HM7.out hzl hzl
        go_wp2_with (first
          | refine wpList_store_row rfl 23 _ _ rfl w7.heap.size M7 rfl rfl 23 Z32 HZR7.out (by rw [HMS7.out.1]; kernel_rfl) (by rw [HMS7.out.1]; exact Z32_size) HMS7.out.2 ?_
          | refine wpList_load_row rfl 23 _ rfl w5.heap.size rfl 23 M5 (0, 0) _ HX8.out Try.underlying23 rfl (by rw [HMS5.out.1]; kernel_rfl) ?_
          | refine wpList_load_row rfl 23 _ rfl w7.heap.size rfl 23 M7 (0, 0) _ HY8.out Try.underlying23 rfl (by rw [HMS7.out.1]; kernel_rfl) ?_
          | refine wpList_load_row_g rfl 23 _ rfl w5.heap.size rfl 23 M5 (0, 0) _ HX8.out Try.underlying23 rfl (by rw [HMS5.out.1]; kernel_rfl) ?_)
        generalize (w7.alloc (.cells Z32 23)).setRow w7.heap.size M7 = w8 at *
        refine (idText_any M5 z _ HM5.out hzl).mono ?_
        rintro e w9 ⟨rfl, hb9⟩
        rw [HT5.out]
        have HB9 := Lib.hid (HB8.out.trans (hb9.mono HB8.out.size))
        clear hb9
        go_wp2_with fail
        refine (alive_any _).mono ?_
        rintro e wz ⟨rfl, hbz⟩
        have HBZ := Lib.hid (HB9.out.trans (hbz.mono HB9.out.size))
        clear hbz
        go_wp2_with fail
        go_ret
        exact ⟨rfl, HBZ.out⟩
      · rw [HY5.out] at hy7; cases hy7
    · have HY5 := Lib.hid hy5
      clear heq
      have HMS5 := Lib.hid (row_id hM5 (by decide))
      have HM5 := Lib.hid hM5
      have HB5 := Lib.hid (HB4.out.trans (hb5.mono HB4.out.size))
      clear hb5 hy5
      have HZR5 : Hid ((w5.alloc (.cells Z32 23)).heap[w5.heap.size]? = some (.cells Z32 23)) := heap_alloc_last _ _
      have hl6 : Below w5.heap.size w5 ((w5.alloc (.cells Z32 23)).setRow w5.heap.size M5) := below_setRow (Below.allocs _ _) (Nat.le_refl _) _
      have HX6 : Hid (((w5.alloc (.cells Z32 23)).setRow w5.heap.size M5).heap[w5.heap.size]? = some (.cells M5 23)) := setRow_heap _ _ _ _ _ _ HZR5.out
      have HB6 := Lib.hid (HB5.out.trans (hl6.mono HB5.out.size))
      clear hl6
      go_wp2_with (refine wpList_store_row rfl 23 _ _ rfl w5.heap.size M5 rfl rfl 23 Z32 HZR5.out (by rw [HMS5.out.1]; kernel_rfl) (by rw [HMS5.out.1]; exact Z32_size) HMS5.out.2 ?_)
      generalize (w5.alloc (.cells Z32 23)).setRow w5.heap.size M5 = w6 at *
      refine (rIdOf_any l _ (by omega)).mono ?_
      rintro e w7 ⟨hb7, ⟨z2, M7, hy7, _⟩ | ⟨hy7, M7, hM7, rfl⟩⟩
      · rw [HY5.out] at hy7; cases hy7
      · have HX7 := Lib.hid (Below.keepOld hb7 HX6.out)
        have HB7 := Lib.hid (HB6.out.trans (hb7.mono HB6.out.size))
        have HMS7 := Lib.hid (row_id hM7 (by decide))
        have HM7 := Lib.hid hM7
        clear hb7 hy7 hM7 hM5
        have HZR7 : Hid ((w7.alloc (.cells Z32 23)).heap[w7.heap.size]? = some (.cells Z32 23)) := heap_alloc_last _ _
        have hl8 : Below w7.heap.size w7 ((w7.alloc (.cells Z32 23)).setRow w7.heap.size M7) := below_setRow (Below.allocs _ _) (Nat.le_refl _) _
        have HX8 := Lib.hid (Below.keepOld hl8 HX7.out)
        have HY8 : Hid (((w7.alloc (.cells Z32 23)).setRow w7.heap.size M7).heap[w7.heap.size]? = some (.cells M7 23)) := setRow_heap _ _ _ _ _ _ HZR7.out
        have HB8 := Lib.hid (HB7.out.trans (hl8.mono HB7.out.size))
        clear hl8
        have heq2 : ∀ wx, (Op.equalIn 10000 23 (.agg M5) (.agg M7)).run Try.prog wx = .ok (zeros == zeros) wx := fun wx => eq_id wx M5 M7 _ _ HM5.out HM7.out (by decide) (by decide)
        go_wp2_with (first
          | refine wpList_store_row rfl 23 _ _ rfl w7.heap.size M7 rfl rfl 23 Z32 HZR7.out (by rw [HMS7.out.1]; kernel_rfl) (by rw [HMS7.out.1]; exact Z32_size) HMS7.out.2 ?_
          | refine wpList_load_row rfl 23 _ rfl w5.heap.size rfl 23 M5 (0, 0) _ HX8.out Try.underlying23 rfl (by rw [HMS5.out.1]; kernel_rfl) ?_
          | refine wpList_load_row rfl 23 _ rfl w7.heap.size rfl 23 M7 (0, 0) _ HY8.out Try.underlying23 rfl (by rw [HMS7.out.1]; kernel_rfl) ?_
          | refine wpList_load_row_g rfl 23 _ rfl w5.heap.size rfl 23 M5 (0, 0) _ HX8.out Try.underlying23 rfl (by rw [HMS5.out.1]; kernel_rfl) ?_)
        generalize (w7.alloc (.cells Z32 23)).setRow w7.heap.size M7 = w8 at *
        refine (alive_any _).mono ?_
        rintro e wz ⟨rfl, hbz⟩
        have HBZ := Lib.hid (HB8.out.trans (hbz.mono HB8.out.size))
        clear hbz
        go_wp2_with fail
        go_ret
        exact ⟨rfl, HBZ.out⟩
  · rw [idL_text x HX.out] at hy; cases hy
end Go.Proofs.Ytiahnoncionmkaa.HexW
