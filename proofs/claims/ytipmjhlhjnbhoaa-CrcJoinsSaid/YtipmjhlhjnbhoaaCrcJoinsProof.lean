/- PROVED: CrcJoins: the sum of two parts is joined from their sums, and any sums as the reference says, for every input. Conditions: none beyond the row's own. -/
import Derived.Test.YtipmjhlhjnbhoaaRows
import Derived.Test.YtipmjhlhjnbhoaaCrcJoinsW
import Derived.Test.YtipmjhlhjnbhoaaOpen
namespace Go.Proofs.Ytipmjhlhjnbhoaa.crcJoins
open Go.ChangeShapes Go.WideShapes Go.ChangeAt Go.RowKit Go.Mir

theorem own : ownKnob Try.prog.godebug = none := by kernel_rfl
theorem laidOut : laidOutB Try.prog = true := by kernel_rfl

set_option maxRecDepth 100000 in
theorem lifted (os : Os) (started : os.Started) (H : Type) (enc : TypeId × Value → H) :
    ReturnsInHanded {} Try.checked os 6 .any (Rows.crcJoinsSpec.pre6 enc Try.prog Try.f6 Rows.crcJoinsRow.domain false) (Rows.crcJoinsSpec.post enc Try.prog Try.f6 false true false false) := by
  refine law_said (C := Try.checked) own started (by kernel_rfl) Try.func6
    (ChangeSpec.witness6 (enc := enc) (C := Try.checked) false ⟨#[], #[.slice none 0 0, .slice none 0 0, .agg #[.int .u32 0, .int .u32 0]], []⟩ 8 (by kernel_rfl) (by kernel_rfl) (by kernel_rfl) (by kernel_rfl))
    laidOut (by kernel_rfl) (by kernel_rfl) Try.underlying4 rfl ?_
  intro W base args ds p hval0 hA
  have hval : ∀ (j : Nat) t v, Try.f6.params[j]? = some t → args[j]? = some v → Value.okWide Try.prog W .any base t v := hval0
  clear hval0
  change DataW.TrodAll enc Try.prog W 0 (fun _ => true) true Try.f6.params.toList args.toList ds p at hA
  rw [Try.params6] at hA hval
  obtain ⟨v0, vs0, d0, ds0, p0, q0, hargs, rfl, rfl, h0, r0⟩ := trodAll_cons hA
  obtain ⟨v1, vs1, d1, ds1, p1, q1, rfl, rfl, rfl, h1, r1⟩ := trodAll_cons r0
  obtain ⟨v2, vs2, d2, ds2, p2, q2, rfl, rfl, rfl, h2, r2⟩ := trodAll_cons r1
  obtain ⟨rfl, rfl, rfl⟩ := trodAll_nil r2
  obtain rfl : args = #[v0, v1, v2] := by cases args; simp_all
  obtain ⟨a0, n0, c0, l0, rfl, hB0⟩ := open_bs Try.underlying22 Try.underlying5 (by kernel_rfl) (hval 0 _ v0 rfl rfl) h0
  obtain ⟨a1, n1, c1, l1, rfl, hB1⟩ := open_bs Try.underlying22 Try.underlying5 (by kernel_rfl) (hval 1 _ v1 rfl rfl) h1
  refine ⟨rfl, ?_⟩
  obtain ⟨zs, rfl, hzl, hzw⟩ := open_nums Try.underlying37 Try.underlying24 (by kernel_rfl) (by kernel_rfl) (hval 2 _ v2 rfl rfl) h2
  obtain ⟨z0, z1, rfl⟩ : ∃ z0 z1, zs = [z0, z1] := by
    match zs, hzl with
    | [z0, z1], _ => exact ⟨z0, z1, rfl⟩
  obtain ⟨x, rfl⟩ := u32_word (hzw z0 (by simp))
  obtain ⟨y, rfl⟩ := u32_word (hzw z1 (by simp))
  by_cases hc : n0 ≤ 1000 ∧ n1 ≤ 1000
  · exact CrcW.joins_any a0 a1 n0 c0 n1 c1 l0 l1 x y W hB0 hB1 hc.1 hc.2
  · exact CrcW.joins_out a0 a1 n0 c0 n1 c1 l0 l1 x y W hB0 hB1 (by omega)

theorem over : Rows.crcJoinsRow.holds Try.pinned (OpenSpec.ofChange Rows.crcJoinsSpec) :=
  OpenClaim.holds_of_wide 6 Try.f6 rfl rfl rfl rfl rfl rfl rfl ⟨rfl, rfl, rfl, rfl, rfl⟩ rfl rfl rfl rfl rfl (by kernel_rfl) Try.func6 (by kernel_rfl)
    (of_decide_eq_true (by kernel_rfl)) (by unfold Func.isWrapper; first | (rw [if_pos (by decide +kernel)]; kernel_rfl) | (rw [if_neg (by decide +kernel)]; exact ⟨rfl, rfl⟩))
    (fun os started H enc _ => lifted os started H enc)

theorem proved : Rows.CrcJoinsSaid := over
end Go.Proofs.Ytipmjhlhjnbhoaa.crcJoins
