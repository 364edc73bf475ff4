/- PROVED: CrcTurned: bytes of which up to 32 bits in a row are turned have another sum, for every input. Conditions: none beyond the row's own. -/
import Derived.Test.YtipmjhlhjnbhoaaRows
import Derived.Test.YtipmjhlhjnbhoaaCrcTurned
import Derived.Test.YtipmjhlhjnbhoaaOpen
namespace Go.Proofs.Ytipmjhlhjnbhoaa.crcTurned
open Go.ChangeShapes Go.WideShapes Go.ChangeAt Go.RowKit Go.Mir

theorem own : ownKnob Try.prog.godebug = none := by kernel_rfl
theorem laidOut : laidOutB Try.prog = true := by kernel_rfl

set_option maxRecDepth 100000 in
theorem lifted (os : Os) (started : os.Started) (H : Type) (enc : TypeId × Value → H) :
    ReturnsInHanded {} Try.checked os 3 .any (Rows.crcTurnedSpec.pre6 enc Try.prog Try.f3 Rows.crcTurnedRow.domain false) (Rows.crcTurnedSpec.post enc Try.prog Try.f3 false true false false) := by
  refine law_said (C := Try.checked) own started (by kernel_rfl) Try.func3
    (ChangeSpec.witness6 (enc := enc) (C := Try.checked) false ⟨#[], #[.slice none 0 0, .int .u16 0, .int .u32 0], []⟩ 8 (by kernel_rfl) (by kernel_rfl) (by kernel_rfl) (by kernel_rfl))
    laidOut (by kernel_rfl) (by kernel_rfl) Try.underlying4 rfl ?_
  intro W base args ds p hval0 hA
  have hval : ∀ (j : Nat) t v, Try.f3.params[j]? = some t → args[j]? = some v → Value.okWide Try.prog W .any base t v := hval0
  clear hval0
  change DataW.TrodAll enc Try.prog W 0 (fun _ => true) true Try.f3.params.toList args.toList ds p at hA
  rw [Try.params3] at hA hval
  obtain ⟨v0, vs0, d0, ds0, p0, q0, hargs, rfl, rfl, h0, r0⟩ := trodAll_cons hA
  obtain ⟨v1, vs1, d1, ds1, p1, q1, rfl, rfl, rfl, h1, r1⟩ := trodAll_cons r0
  obtain ⟨v2, vs2, d2, ds2, p2, q2, rfl, rfl, rfl, h2, r2⟩ := trodAll_cons r1
  obtain ⟨rfl, rfl, rfl⟩ := trodAll_nil r2
  obtain rfl : args = #[v0, v1, v2] := by cases args; simp_all
  obtain ⟨a, n, c, l, rfl, hB⟩ := open_bs Try.underlying22 Try.underlying5 (by kernel_rfl) (hval 0 _ v0 rfl rfl) h0
  obtain ⟨a1, rfl, rfl, rfl, w1⟩ := open_int Try.underlying23 (hval 1 _ v1 rfl rfl) h1
  obtain ⟨a2, rfl, rfl, rfl, w2⟩ := open_int Try.underlying24 (hval 2 _ v2 rfl rfl) h2
  refine ⟨rfl, ?_⟩
  obtain ⟨at_, rfl, hat⟩ := u16_nat w1
  obtain ⟨by_, rfl⟩ := u32_word w2
  by_cases hc : 5 ≤ n ∧ n ≤ 500 ∧ by_ ≠ 0#32
  · exact CrcW.turned_any a n c l at_ by_ W hB hat hc.1 hc.2.1 hc.2.2
  · refine CrcW.turned_out a n c l at_ by_ W hB hat ?_
    by_cases h0 : by_ = 0#32
    · exact .inr (.inr h0)
    · have : ¬ (5 ≤ n ∧ n ≤ 500) := fun h => hc ⟨h.1, h.2, h0⟩
      omega

theorem over : Rows.crcTurnedRow.holds Try.pinned (OpenSpec.ofChange Rows.crcTurnedSpec) :=
  OpenClaim.holds_of_wide 3 Try.f3 rfl rfl rfl rfl rfl rfl rfl ⟨rfl, rfl, rfl, rfl, rfl⟩ rfl rfl rfl rfl rfl (by kernel_rfl) Try.func3 (by kernel_rfl)
    (of_decide_eq_true (by kernel_rfl)) (by unfold Func.isWrapper; first | (rw [if_pos (by decide +kernel)]; kernel_rfl) | (rw [if_neg (by decide +kernel)]; exact ⟨rfl, rfl⟩))
    (fun os started H enc _ => lifted os started H enc)

theorem proved : Rows.CrcTurnedSaid := over
end Go.Proofs.Ytipmjhlhjnbhoaa.crcTurned
