/- FRAMES: the reference: Encode. Conditions: at most 4000 bytes. -/
import Derived.Test.YtjbjlmdfgpoadaaDoorFrm4
namespace Go.Proofs.YtjbjlmdfgpoadaaDoor.Frm
open Go.RowKit Go.Mir Go.Mir.Parts Wr Cod

set_option maxRecDepth 100000 in
theorem rencode_any (p : Option Addr) (n c : Nat) (l : List UInt8) (w : World) (hB : Bs w p n c l) (hn : n ≤ 4000) :
    Calls Tryd.prog 8 #[.slice p n c] w fun e w' => ∃ p' c', e = .returned (.tuple #[.slice p' (enc l).1.length c', .int .i64 (enc l).2]) ∧ w'.ownsRow w.heap.size 5 1 (.slice p' (enc l).1.length c') (enc l).1.length (bytesV (enc l).1) ∧ Below w.heap.size w w' := by
  have HC := Lib.hid (rbytes_any p n c l w hB (by omega))
  have HN := Lib.hid hB.length
  clear hB
  by_cases h0 : n = 0
  · have d1 : decide ((n : Int) < 1) = true := decide_eq_true (by omega)
    have HE : Hid (enc l = ([], 1)) := by show _ = _; unfold enc; rw [if_pos (by rw [HN.out]; exact h0)]
    clear h0
    go_enter Tryd.func8, Tryd.ntmps8
    go_wp2_with fail
    go_ret2
    exact ⟨none, 0, by rw [HE.out]; rfl, by rw [HE.out]; exact ⟨rfl, .inl ⟨rfl, rfl⟩⟩, Below.refl _ _⟩
  · have d1 : decide ((n : Int) < 1) = false := decide_eq_false (by omega)
    have d2 : decide ((65536 : Int) < (n : Int)) = false := decide_eq_false (by omega)
    have HE : Hid (enc l = (frame l, 0)) := by show _ = _; unfold enc; rw [if_neg (by rw [HN.out]; exact h0)]
    clear h0
    go_enter Tryd.func8, Tryd.ntmps8
    go_wp2_with fail
    refine HC.out.mono ?_
    rintro e w1 ⟨p1, c1, rfl, ho1, hb1⟩
    have HO1 := Lib.hid ho1
    have HB1 := Lib.hid hb1
    clear ho1 hb1
    go_wp2_with fail
    go_ret2
    exact ⟨p1, c1, by rw [HE.out]; rfl, by rw [HE.out]; exact HO1.out, HB1.out⟩
end Go.Proofs.YtjbjlmdfgpoadaaDoor.Frm
