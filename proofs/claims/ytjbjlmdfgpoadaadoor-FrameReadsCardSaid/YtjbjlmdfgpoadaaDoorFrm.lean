/- FRAMES: fits, Size. Conditions: a length that an int holds. -/
import Derived.Test.YtjbjlmdfgpoadaaDoorCodec
import Derived.Test.YtjbjlmdfgpoadaaDoorCrcWalk
namespace Go.Proofs.YtjbjlmdfgpoadaaDoor.Frm
open Go.RowKit Go.Mir Go.Mir.Parts Wr Cod

theorem fits_any (n : Nat) (hn : n < 18446744073709551616) (w : World) :
    Calls Tryd.prog 17 #[.int .u64 (n : Int)] w fun e w' => e = .returned (.bool (decide (1 ≤ n ∧ n ≤ 65536))) ∧ w = w' := by
  by_cases h1 : 1 ≤ n
  · have d1 : decide ((1 : Int) ≤ (n : Int)) = true := decide_eq_true (by omega)
    by_cases h2 : n ≤ 65536
    · have d2 : decide ((n : Int) ≤ 65536) = true := decide_eq_true (by omega)
      have d3 : decide (n ≤ 65536) = true := decide_eq_true h2
      have HR : Hid (decide (1 ≤ n ∧ n ≤ 65536) = true) := decide_eq_true ⟨h1, h2⟩
      rw [HR.out]
      clear h1 h2
      go_enter Tryd.func17, Tryd.ntmps17
      go_wp2_with fail
      go_ret
      exact ⟨rfl, rfl⟩
    · have d2 : decide ((n : Int) ≤ 65536) = false := decide_eq_false (by omega)
      have d3 : decide (n ≤ 65536) = false := decide_eq_false h2
      have HR : Hid (decide (1 ≤ n ∧ n ≤ 65536) = false) := decide_eq_false (by omega)
      rw [HR.out]
      clear h1 h2
      go_enter Tryd.func17, Tryd.ntmps17
      go_wp2_with fail
      go_ret
      exact ⟨rfl, rfl⟩
  · have d1 : decide ((1 : Int) ≤ (n : Int)) = false := decide_eq_false (by omega)
    have HR : Hid (decide (1 ≤ n ∧ n ≤ 65536) = false) := decide_eq_false (by omega)
    rw [HR.out]
    clear h1
    go_enter Tryd.func17, Tryd.ntmps17
    go_wp2_with fail
    go_ret
    exact ⟨rfl, rfl⟩
theorem size_any (p : Option Addr) (n c : Nat) (hn : n ≤ 1099511627776) (w : World) :
    Calls Tryd.prog 9 #[.slice p n c] w fun e w' => e = .returned (.int .i64 ((8 + n : Nat) : Int)) ∧ w = w' := by
  have hw : IntKind.i64.wrap (8 + (n : Int)) = ((8 + n : Nat) : Int) := by rw [IntWalk.i64_in _ (by omega)]; omega
  go_enter Tryd.func9, Tryd.ntmps9
  go_wp2_with fail
  go_ret
  exact ⟨by first | rfl | (rw [hw]), rfl⟩
end Go.Proofs.YtjbjlmdfgpoadaaDoor.Frm
