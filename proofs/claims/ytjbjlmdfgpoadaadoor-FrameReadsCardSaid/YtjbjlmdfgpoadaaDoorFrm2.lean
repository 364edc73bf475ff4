/- FRAMES: Encode. Conditions: at most 4000 bytes. -/
import Derived.Test.YtjbjlmdfgpoadaaDoorFrm
namespace Go.Proofs.YtjbjlmdfgpoadaaDoor.Frm
open Go.RowKit Go.Mir Go.Mir.Parts Wr Cod

theorem ws_below {w x y : World} {wb R : Nat} {E : List UInt8} (h : WS w wb R E x) (hb : Below x.heap.size x y) : WS w wb R E y := by
  obtain ⟨v, l, bad, ha, hv, h3, h4⟩ := h.all
  exact ⟨v, l, bad, ha.touch (Turns.of_below (S := fun _ => False) hb) (fun _ _ h => h), hv, h3, h4.trans (hb.mono h4.size)⟩
/-- a body's frame -/
def frame (l : List UInt8) : List UInt8 := be l.length 4 ++ be (Crc.more 0#32 ([be l.length 4, l].flatten)).toNat 4 ++ l
def enc (l : List UInt8) : List UInt8 × Int := if l.length = 0 then ([], 1) else (frame l, 0)
set_option maxRecDepth 100000 in
set_option maxHeartbeats 1600000 in
theorem encode_any (p : Option Addr) (n c : Nat) (l : List UInt8) (w : World) (hB : Bs w p n c l) (hn : n ≤ 4000) :
    Calls Tryd.prog 7 #[.slice p n c] w fun e w' => ∃ p' c', e = .returned (.tuple #[.slice p' (enc l).1.length c', .int .i64 (enc l).2]) ∧ w'.ownsRow w.heap.size 5 1 (.slice p' (enc l).1.length c') (enc l).1.length (bytesV (enc l).1) ∧ Below w.heap.size w w' := by
  have HB := Lib.hid hB
  have HN := Lib.hid hB.length
  clear hB
  have hw1 : IntKind.u64.wrap (n : Int) = (n : Int) := by rw [IntKind.wrap_u64]; omega
  by_cases h0 : n = 0
  · have HF : Hid (decide (1 ≤ n ∧ n ≤ 65536) = false) := decide_eq_false (by omega)
    have HE : Hid (enc l = ([], 1)) := by show _ = _; unfold enc; rw [if_pos (by rw [HN.out]; exact h0)]
    clear h0
    go_enter Tryd.func7, Tryd.ntmps7
    go_wp2_with fail
    refine (fits_any n (by omega) w).mono ?_
    rintro e w1 ⟨rfl, rfl⟩
    rw [HF.out]
    go_wp2_with fail
    go_ret2
    exact ⟨none, 0, by rw [HE.out]; rfl, by rw [HE.out]; exact ⟨rfl, .inl ⟨rfl, rfl⟩⟩, Below.refl _ _⟩
  · have HF : Hid (decide (1 ≤ n ∧ n ≤ 65536) = true) := decide_eq_true (by omega)
    have HE : Hid (enc l = (frame l, 0)) := by show _ = _; unfold enc; rw [if_neg (by rw [HN.out]; exact h0)]
    clear h0
    go_enter Tryd.func7, Tryd.ntmps7
    go_wp2_with fail
    refine (fits_any n (by omega) w).mono ?_
    rintro e w1 ⟨rfl, rfl⟩
    rw [HF.out]
    go_wp2_with fail
    refine (size_any p n c (by omega) w).mono ?_
    rintro e w1 ⟨rfl, rfl⟩
    go_wp2_with fail
    refine (ws_new w w (Below.refl _ _) (8 + n) (by omega)).mono ?_
    rintro e w2 ⟨rfl, hs2, -⟩
    have HS2 := Lib.hid hs2
    clear hs2
    go_wp2_with fail
    refine (ws_num HS2.out (by omega) n 4 (by omega) (by omega) (by omega) (by omega)).mono ?_
    rintro e w3 ⟨rfl, hs3⟩
    have HS3 := Lib.hid hs3
    clear hs3 HS2
    go_wp2_with fail
    refine (ws_done HS3.out (by omega) (by rw [List.nil_append, be_length]; omega)).mono ?_
    rintro e w4 ⟨⟨p4, c4, rfl, ho4⟩, hs4, hb4⟩
    have HS4 := Lib.hid hs4
    have HO4 := Lib.hid ho4
    clear hs4 ho4 HS3
    go_wp2_with fail
    have hb14 : Bs w4 p4 (be n 4).length c4 (be n 4) := by
      obtain ⟨p9, c9, e9, h9⟩ := own_sl HO4.out
      cases e9
      exact h9
    have h4w : Below w.heap.size w w4 := HS4.out.low
    have hal : Below w4.heap.size w4 (w4.alloc (.cells #[.slice p4 (be n 4).length c4, .slice p n c] 22)) := Below.allocs _ _
    refine (CrcW.of_any _ _ _ [be n 4, l] _ (Pts.made2 hb14 (HB.out.below h4w) _ rfl)).mono ?_
    rintro e w5 ⟨rfl, hb5⟩
    have HS5 := Lib.hid (ws_below HS4.out (hal.trans (hb5.mono hal.size)))
    have HO5 := Lib.hid HO4.out
    have hcl := (Crc.more 0#32 ([be n 4, l].flatten)).isLt
    obtain ⟨C, hC⟩ : ∃ C, (Crc.more 0#32 ([be n 4, l].flatten)).toNat = C := ⟨_, rfl⟩
    rw [hC] at hcl ⊢
    have hcw : IntKind.u64.wrap (C : Int) = (C : Int) := by rw [IntKind.wrap_u64]; omega
    have HC := Lib.hid hC
    clear hb14 h4w hal hb5 HS4 hC HO4
    go_wp2_with fail
    refine (ws_num HS5.out (by omega) C 4 (by omega) (by omega) (by omega) (by omega)).mono ?_
    rintro e w6 ⟨rfl, hs6⟩
    have HS6 := Lib.hid hs6
    clear hs6 HS5
    go_wp2_with fail
    refine (ws_bytes HS6.out (by omega) p n c l HB.out (by rw [HN.out]; omega)).mono ?_
    rintro e w7 ⟨rfl, hs7⟩
    have HS7 := Lib.hid hs7
    clear hs7 HS6
    go_wp2_with fail
    refine (ws_done HS7.out (by omega) (by simp only [List.nil_append, List.length_append, be_length]; rw [HN.out]; omega)).mono ?_
    rintro e w8 ⟨⟨p8, c8, rfl, ho8⟩, hs8, hb8⟩
    have hfr : ([] ++ be n 4 ++ be C 4 ++ l) = frame l := by unfold frame; rw [HN.out, HC.out, List.nil_append]
    rw [hfr] at ho8
    have HO8 := Lib.hid (own_base ho8 (base' := w.heap.size) (fun k hk => by have := (ho8.lt k hk).1; have := HS7.out.low.size; omega))
    have HFR := Lib.hid hfr
    have HB8 := Lib.hid hs8.low
    rw [hfr]
    clear hs8 hb8 ho8 hfr
    go_wp2_with fail
    go_ret2
    exact ⟨p8, c8, by rw [HE.out]; rfl, by rw [HE.out]; exact HO8.out, HB8.out⟩
end Go.Proofs.YtjbjlmdfgpoadaaDoor.Frm
