/- LAYER 12: the example, and the walks of the laws. Conditions: none. -/
import Derived.Test.YtiahnoncionmkaaHexNumRef
namespace Go.Proofs.Ytiahnoncionmkaa.HexW
open Go.RowKit Bld Go.Mir Go.Mir.Hx Go.Mir.Parts

theorem ex1 : idL [48, 97, 102, 102] = some (10 :: 255 :: List.replicate 30 0) := by decide
theorem ex2 : idL [48, 97, 48, 48] = none := by decide
theorem ex3 : textL [10, 255] = [48, 97, 102, 102] := by decide
theorem ex4 : decL 120 = [49, 50, 48] := by decide

set_option maxRecDepth 100000 in
set_option maxHeartbeats 400000 in
theorem alive_any (w : World) : Calls Try.prog 6 #[] w fun e w' => e = .returned (.bool true) ∧ Below w.heap.size w w' := by
  have hz := zeroId
  go_enter Try.func6, Try.ntmps6
  go_wp2_with fail
  refine (idOf_any [48, 97, 102, 102] _ (by decide)).mono ?_
  rintro e w1 ⟨hb1, ⟨x, M, hx, hxl, hM, rfl⟩ | ⟨hx, _⟩⟩
  · rw [ex1] at hx
    obtain rfl := Option.some.inj hx
    have HB1 := Lib.hid hb1
    have HM := Lib.hid hM
    have HMS := Lib.hid (row_id hM hxl)
    clear hb1 hx hxl hM
    have HZR : Hid ((w1.alloc (.cells Z32 23)).heap[w1.heap.size]? = some (.cells Z32 23)) := heap_alloc_last _ _
    go_wp2_with (refine wpList_store_row rfl 23 _ _ rfl w1.heap.size M rfl rfl 23 Z32 HZR.out (by rw [HMS.out.1]; kernel_rfl) (by rw [HMS.out.1]; exact Z32_size) HMS.out.2 ?_)
    have HR : Hid (((w1.alloc (.cells Z32 23)).setRow w1.heap.size M).heap[w1.heap.size]? = some (.cells M 23)) := setRow_heap _ _ _ _ _ _ HZR.out
    have HB2 : Hid (Below w.heap.size w ((w1.alloc (.cells Z32 23)).setRow w1.heap.size M)) := below_setRow (HB1.out.alloc HB1.out.size _) HB1.out.size _
    generalize (w1.alloc (.cells Z32 23)).setRow w1.heap.size M = w2 at *
    refine (idOf_any [48, 97, 48, 48] _ (by decide)).mono ?_
    rintro e w3 ⟨hb3, ⟨x, M2, hx, _⟩ | ⟨_, M2, hM2, rfl⟩⟩
    · rw [ex2] at hx; cases hx
    · have HR3 := Lib.hid (Below.keepOld hb3 HR.out)
      have HB3 := Lib.hid (HB2.out.trans (hb3.mono HB2.out.size))
      have HMS2 := Lib.hid (row_id hM2 (by decide))
      clear hb3 hM2
      have HZR2 : Hid ((w3.alloc (.cells Z32 23)).heap[w3.heap.size]? = some (.cells Z32 23)) := heap_alloc_last _ _
      go_wp2_with (refine wpList_store_row rfl 23 _ _ rfl w3.heap.size M2 rfl rfl 23 Z32 HZR2.out (by rw [HMS2.out.1]; kernel_rfl) (by rw [HMS2.out.1]; exact Z32_size) HMS2.out.2 ?_)
      have hl4 : Below w3.heap.size w3 ((w3.alloc (.cells Z32 23)).setRow w3.heap.size M2) := below_setRow (Below.allocs _ _) (Nat.le_refl _) _
      have HR4 := Lib.hid (Below.keepOld hl4 HR3.out)
      have HB4 := Lib.hid (HB3.out.trans (hl4.mono HB3.out.size))
      clear hl4
      have HS4 : Hid (((w3.alloc (.cells Z32 23)).setRow w3.heap.size M2).heap.size = w3.heap.size + 1) := by show _ = _; simp [World.setRow]
      generalize (w3.alloc (.cells Z32 23)).setRow w3.heap.size M2 = w4 at *
      have hbs : Bs (w4.alloc (.cells #[.int .u8 10, .int .u8 255] 5)) (some ⟨w4.heap.size, 0, none⟩) 2 2 [10, 255] := Bs.made w4 [10, 255] _ _ _ 2 rfl rfl (by omega)
      rw [HS4.out] at hbs
      refine (text_any _ _ _ [10, 255] _ hbs (by omega)).mono ?_
      rintro e w5 ⟨rfl, hb5⟩
      rw [ex3]
      have hc := row_byte (Below.keepOld hb5 (block_old _ HR4.out)) HM.out 1 (by decide)
      have HB5 := Lib.hid ((HB4.out.alloc HB4.out.size _).trans (hb5.mono (by have := HB4.out.size; simp; omega)))
      clear hb5 hbs
      go_wp2_with fail
      refine (num_any 120 _ (by decide)).mono ?_
      rintro e w6 ⟨rfl, hb6⟩
      rw [ex4]
      have HB6 := Lib.hid (HB5.out.trans (hb6.mono HB5.out.size))
      clear hb6 hc
      go_wp2_with fail
      go_ret
      exact ⟨rfl, HB6.out⟩
  · rw [ex1] at hx; cases hx

/-! ### HexBytes -/
set_option maxRecDepth 100000 in
theorem hexBytes_out (p : Option Addr) (n c : Nat) (l : List UInt8) (w : World) (hn : n ≤ 9223372036854775807) (hl : l.length ≤ 9223372036854775807) (h : 1000 < n ∨ 1000 < l.length) :
    Calls Try.prog 4 #[.slice p n c, .string (S l)] w fun e w' => e = .returned (.bool true) ∧ Below w.heap.size w w' := by
  by_cases h1 : 1000 < n
  · have hd : decide ((1000 : Int) < (n : Int)) = true := decide_eq_true (by omega)
    clear h h1
    go_enter Try.func4, Try.ntmps4
    go_wp2_with fail
    refine (alive_any _).mono ?_
    rintro e w1 ⟨rfl, hb1⟩
    have HB1 := Lib.hid hb1
    clear hb1
    go_wp2_with fail
    go_ret
    exact ⟨rfl, HB1.out⟩
  · have hd : decide ((1000 : Int) < (n : Int)) = false := decide_eq_false (by omega)
    have hd2 : decide ((1000 : Int) < (l.length : Int)) = true := decide_eq_true (by omega)
    clear h h1
    go_enter Try.func4, Try.ntmps4
    go_wp2_with fail
    refine (alive_any _).mono ?_
    rintro e w1 ⟨rfl, hb1⟩
    have HB1 := Lib.hid hb1
    clear hb1
    go_wp2_with fail
    go_ret
    exact ⟨rfl, HB1.out⟩
theorem text_len (b : List UInt8) : (textL b).length ≤ 2 * b.length + 1 := by
  unfold textL; split
  · simp
  · rw [pairsL_length]; omega
theorem cv {w : World} {p : Option Addr} {n c : Nat} {l : List UInt8} (h : Bs w p n c l) : (convert 30 9 (.slice p n c)).run Try.prog w = .ok (.string (S l)) w :=
  run_conv 30 9 5 Try.underlying30 Try.underlying5 Try.underlying9 h
set_option maxRecDepth 100000 in
set_option maxHeartbeats 800000 in
theorem hexBytes_in (p : Option Addr) (n c : Nat) (b l : List UInt8) (w : World) (hB : Bs w p n c b) (hn : n ≤ 1000) (hl : l.length ≤ 1000) :
    Calls Try.prog 4 #[.slice p n c, .string (S l)] w fun e w' => e = .returned (.bool true) ∧ Below w.heap.size w w' := by
  obtain rfl : b.length = n := hB.length
  have H := Lib.hid hB
  have hd : decide ((1000 : Int) < (b.length : Int)) = false := decide_eq_false (by omega)
  have hd2 : decide ((1000 : Int) < (l.length : Int)) = false := decide_eq_false (by omega)
  have HTL := Lib.hid (text_len b)
  clear hB
  go_enter Try.func4, Try.ntmps4
  go_wp2_with fail
  refine (text_any _ _ _ b _ H.out (by omega)).mono ?_
  rintro e w1 ⟨rfl, hb1⟩
  have HB1 := Lib.hid hb1
  clear hb1
  go_wp2_with fail
  refine (bytes_any (textL b) _ (by have := HTL.out; omega)).mono ?_
  rintro e w2 ⟨hb2, ⟨x, q, d, hx, rfl, hX, _⟩ | ⟨hx, _⟩⟩
  · rw [bytes_text] at hx
    obtain rfl := Option.some.inj hx
    have HB2 := Lib.hid (HB1.out.trans (hb2.mono HB1.out.size))
    have HX := Lib.hid hX
    clear hb2 hx hX
    go_wp2_with fail
    refine (rText_any _ _ _ b _ (H.out.below HB2.out) (by omega)).mono ?_
    rintro e w3 ⟨rfl, hb3⟩
    have HB3 := Lib.hid (HB2.out.trans (hb3.mono HB2.out.size))
    have hc1 := cv (HX.out.below hb3)
    have hc2 := cv (H.out.below HB3.out)
    clear hb3
    go_wp2_with fail
    refine (bytes_any l _ (by omega)).mono ?_
    rintro e w4 ⟨hb4, h4⟩
    have HB4 := Lib.hid (HB3.out.trans (hb4.mono HB3.out.size))
    clear hc1 hc2
    rcases h4 with ⟨y, q2, d2, hy, rfl, hY, _⟩ | ⟨hy, rfl⟩
    · have HY := Lib.hid hy
      have HYS := Lib.hid hY
      have HTX := Lib.hid (text_bytes l y hy)
      clear hb4 hy hY
      go_wp2_with fail
      refine (rBytes_any l _ (by omega)).mono ?_
      rintro e w5 ⟨hb5, ⟨y2, q3, d3, hy2, rfl, hY2, _⟩ | ⟨hy2, _⟩⟩
      · rw [HY.out] at hy2
        obtain rfl := Option.some.inj hy2
        have HB5 := Lib.hid (HB4.out.trans (hb5.mono HB4.out.size))
        have hY5 := HYS.out.below hb5
        have hc1 := cv hY5
        have hc2 := cv hY2
        have hyl : y.length ≤ 1000 := by
          have h1 := congrArg List.length HTX.out
          have h2 : y.length ≤ (textL y).length := by
            unfold textL; split
            · rename_i h; rw [h]; simp
            · rw [pairsL_length]; omega
          omega
        have HY5 := Lib.hid hY5
        clear hb5 hy2 hY2 hY5
        go_wp2_with fail
        refine (text_any _ _ _ y _ HY5.out (by omega)).mono ?_
        rintro e w6 ⟨rfl, hb6⟩
        rw [HTX.out]
        have HB6 := Lib.hid (HB5.out.trans (hb6.mono HB5.out.size))
        clear hb6 hc1 hc2
        go_wp2_with fail
        refine (alive_any _).mono ?_
        rintro e w7 ⟨rfl, hb7⟩
        have HB7 := Lib.hid (HB6.out.trans (hb7.mono HB6.out.size))
        clear hb7
        go_wp2_with fail
        go_ret
        exact ⟨rfl, HB7.out⟩
      · rw [HY.out] at hy2; cases hy2
    · have HY := Lib.hid hy
      clear hb4 hy
      go_wp2_with fail
      refine (rBytes_any l _ (by omega)).mono ?_
      rintro e w5 ⟨hb5, ⟨y2, q3, d3, hy2, _⟩ | ⟨_, rfl⟩⟩
      · rw [HY.out] at hy2; cases hy2
      · have HB5 := Lib.hid (HB4.out.trans (hb5.mono HB4.out.size))
        have hc1 := cv (l := []) (show Bs w5 none 0 0 [] from Sl.nil w5 1)
        clear hb5
        go_wp2_with fail
        refine (alive_any _).mono ?_
        rintro e w7 ⟨rfl, hb7⟩
        have HB7 := Lib.hid (HB5.out.trans (hb7.mono HB5.out.size))
        clear hb7
        go_wp2_with fail
        go_ret
        exact ⟨rfl, HB7.out⟩
  · rw [bytes_text] at hx; cases hx
end Go.Proofs.Ytiahnoncionmkaa.HexW
